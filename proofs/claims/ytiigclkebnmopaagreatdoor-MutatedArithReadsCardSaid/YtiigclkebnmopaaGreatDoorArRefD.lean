/- Arithmetic expressions: the reference's assign. -/
import Derived.Test.YtiigclkebnmopaaGreatDoorArRefC
import Derived.Test.YtiigclkebnmopaaGreatDoorArRNum
namespace Go.Proofs.YtiigclkebnmopaaGreatDoor
open Go.RowKit Go.Shelf

def rasg : List (List UInt8) := [[61], [42, 61], [47, 61], [37, 61], [43, 61], [45, 61], [60, 60, 61], [62, 62, 61], [38, 61], [94, 61], [124, 61]]
def rasgV : Array Value := #[.string ⟨#[61]⟩, .string ⟨#[42, 61]⟩, .string ⟨#[47, 61]⟩, .string ⟨#[37, 61]⟩, .string ⟨#[43, 61]⟩, .string ⟨#[45, 61]⟩, .string ⟨#[60, 60, 61]⟩, .string ⟨#[62, 62, 61]⟩, .string ⟨#[38, 61]⟩, .string ⟨#[94, 61]⟩, .string ⟨#[124, 61]⟩]
theorem rasg_lit : rasgV = (rasg.map fun s => Value.string (toB s)).toArray := by simp [rasgV, rasg, toB]
theorem rasg_mem (s : List UInt8) : s ∈ rasg ↔ s ∈ assigns := by
  have h1 : ∀ s ∈ rasg, s ∈ assigns := by decide
  have h2 : ∀ s ∈ assigns, s ∈ rasg := by decide
  exact ⟨h1 s, h2 s⟩
def asgKR (f : Nat) (x : Ex) (l1 : List UInt8) : Out := if sg l1 ∈ assigns then (if target x = true then (parseR f .assign (aft (sg l1) l1)).bind (fun y l2 => .ok (bx (sg l1) [x, y]) l2) else badAt l1) else .ok x (gap l1)
theorem parseR_asg (f : Nat) (l : List UInt8) : parseR (f + 1) .assign l = (parseR f .choice (gap l)).bind (asgKR f) := rfl

set_option maxRecDepth 100000 in
set_option maxHeartbeats 6400000 in
theorem rassign_any (f b : Nat) (T : List UInt8) (hC : RCtr 105 .choice f b T) (hA : RCtr 62 .assign f b T) : RCtr 62 .assign (f + 1) b T := by
  intro l w h hm hn
  have HM := Lib.hid hm
  have HX0 := Lib.hid (RSX.start h)
  have hlt := h.lt
  rw [parseR_asg] at hn ⊢
  obtain ⟨o0, ho0⟩ : ∃ o0, parseR f .choice (gap l) = o0 := ⟨_, rfl⟩
  have HL := Lib.hid (hC.at hm (gap l))
  rw [ho0] at HL hn ⊢
  have HN0 := Lib.hid (bind_none hn)
  obtain ⟨o, ho⟩ : ∃ o, o0.bind (asgKR f) = o := ⟨_, rfl⟩
  have HO := Lib.hid ho
  rw [ho] at hn ⊢
  have HNn := Lib.hid hn
  have HAs := Lib.hid (hA.at hm)
  obtain ⟨Q, hQ⟩ : ∃ Q, RPG b T o w = Q := ⟨_, rfl⟩
  rw [hQ]
  have HQ := Lib.hid hQ
  clear hQ h hn hC hA ho ho0 hm
  go_enter Tryz.func62, Tryz.ntmps62
  go_wp2_with fail
  generalize w.alloc (.cells #[.string ⟨#[]⟩, .int .i64 0, .string ⟨#[]⟩, .slice none 0 0] 25) = w1 at *
  obtain ⟨bx, hbx⟩ : ∃ bx, w.heap.size = bx := ⟨_, rfl⟩
  rw [hbx] at HX0
  simp only [hbx]
  clear hbx
  refine (rgap_any b T l w1 HX0.out.rd).mono ?_
  rintro e wg ⟨rfl, hrg, hog⟩
  have HX1 := Lib.hid (HX0.out.step hrg hog)
  clear hrg hog HX0
  go_wp2_with fail
  refine (HL.out wg HX1.out.rd HX1.out.only HN0.out).mono ?_
  intro e w2 hp
  clear HL
  rcases out_cases o0 with ⟨x, l1, rfl⟩ | hno
  · obtain ⟨v, rfl, hx, hr2, ho2⟩ := hp
    obtain ⟨n, A, k, c, nm, rfl, hnm⟩ := hx.form
    have HB := Lib.hid (HX1.out.box hr2 ho2 hx)
    have HK := Lib.hid (show asgKR f x l1 = o from HO.out)
    have ht := Lib.hid (show (x.op == [101] || x.op == [118] && isNm nm) = target x by rw [hnm]; rfl)
    clear hx hr2 ho2 hnm HO
    go_wp2_with fail
    generalize w2.alloc (.cells #[.string (toB x.op), .int .i64 (n : Int), .string (toB nm), .slice A k c] 25) = w3 at *
    generalize w2.heap.size = gx at *
    refine (apeek_any b T l1 w3 HB.out.sx.rd).mono ?_
    rintro e w4 ⟨rfl, hr4, ho4⟩
    have HB4 := Lib.hid (HB.out.step hr4 ho4)
    clear hr4 ho4 HB
    have ba := (Below.refl w4.heap.size w4).alloc (Nat.le_refl _) (.cells rasgV 9)
    have HB5 := Lib.hid (HB4.out.below ba)
    have HC := Lib.hid (rcont_any w4.heap.size 0 11 rasg (sg l1) (w4.alloc (.cells rasgV 9)) (TX.new w4 _ _ _ rasg_lit) (by decide))
    rw [show rasg.length = 11 from rfl] at HC
    clear ba HB4
    go_upto_region 4 with fail
    unfold rasgV at HC HB5
    go_wp2_with fail
    refine HC.out.mono ?_
    rintro e w5 ⟨rfl, hw5⟩
    subst hw5
    generalize w4.alloc (.cells #[.string ⟨#[61]⟩, .string ⟨#[42, 61]⟩, .string ⟨#[47, 61]⟩, .string ⟨#[37, 61]⟩, .string ⟨#[43, 61]⟩, .string ⟨#[45, 61]⟩, .string ⟨#[60, 60, 61]⟩, .string ⟨#[62, 62, 61]⟩, .string ⟨#[38, 61]⟩, .string ⟨#[94, 61]⟩, .string ⟨#[124, 61]⟩] 9) = w5 at *
    clear HC
    by_cases hmem : sg l1 ∈ assigns
    · have hne0 : sg l1 ≠ [] := fun e => by rw [e] at hmem; revert hmem; decide
      have htk := Lib.hid (sg_take hne0)
      have HK2 := Lib.hid ((if_pos hmem).symm.trans HK.out)
      rw [show decide (sg l1 ∈ rasg) = true from decide_eq_true ((rasg_mem _).2 hmem)]
      clear hmem HK hne0
      obtain ⟨c0, c1, c2, c3, cf⟩ := HB5.out.four.cells
      go_wp2_with fail
      refine (rtarget_any x.op nm (n : Int) A k c _).mono ?_
      rintro e w6 ⟨rfl, hb6⟩
      rw [ht.out]
      have HB6 := Lib.hid (HB5.out.below hb6)
      clear c0 c1 c2 c3 cf hb6
      cases htx : target x with
      | true =>
        have HK3 := Lib.hid ((if_pos htx).symm.trans HK2.out)
        clear htx
        go_wp2_with fail
        refine (rgot_any b T (gap l1) (sg l1) w6 HB6.out.sx.rd htk.out.2.2 htk.out.2.1).mono ?_
        rintro e w7 ⟨rfl, hr7, ho7⟩
        have HB7 := Lib.hid (HB6.out.step (show RRd w7 b T (aft (sg l1) l1) from by rw [htk.out.1] at hr7; exact hr7) ho7)
        have HB8 := Lib.hid (HB7.out.below ((Below.refl _ w7).drew))
        obtain ⟨o3, ho3⟩ : ∃ o3, parseR f .assign (aft (sg l1) l1) = o3 := ⟨_, rfl⟩
        rw [ho3] at HK3
        have HN3 := Lib.hid (show parseR f .assign (aft (sg l1) l1) ≠ .none from fun e => HNn.out (by rw [← HK3.out, ← ho3, e]; rfl))
        have HE3 := Lib.hid (HAs.out (aft (sg l1) l1) w7.drew HB8.out.sx.rd HB8.out.sx.only HN3.out)
        rw [ho3] at HE3
        obtain ⟨c0, c1, c2, c3, cf⟩ := HB7.out.four.cells
        clear hr7 ho7 ho3
        go_upto_region 9 with fail
        rcases out_cases o3 with ⟨z, l3, rfl⟩ | hno
        · go_region_law (first
            | (go_simp; go_at_call 62; refine HE3.out.mono ?_; rintro e w8 ⟨v, rfl, hz, hr8, ho8⟩; obtain ⟨n8, A8, k8, c8, nm8, rfl, hnm8⟩ := hz.form; have HE := Lib.hid (HB8.out.gives2 hr8 ho8 hz (sg l1) HK3.out.symm); have HX9 := Lib.hid (HB8.out.step hr8 ho8); clear hz hr8 ho8 hnm8; obtain ⟨d0, d1, d2, d3, df⟩ := HX9.out.sx.res.cells; obtain ⟨e0, e1, e2, e3, ef⟩ := HX9.out.four.cells; have hlt9 := HX9.out.sx.lt))
          all_goals
            go_wp2_with fail
            obtain ⟨q0, q1, q2, q3, qf⟩ := HE.out.2.cells
            unfold set4 at q0 q1 q2 q3
            rw [show toB [] = (⟨#[]⟩ : ByteArray) from rfl] at q0 q1 q2 q3
            refine bodyPost_ret (v := .agg #[.string (toB (sg l1)), .int .i64 0, .string ⟨#[]⟩, .slice (some ⟨w8.heap.size, 0, none⟩) 2 2]) (by simp [results, Tryz.results62, go_sem, q0, q1, q2, q3]) rfl ?_
            rw [← HQ.out]
            exact HE.out.1
        · go_region_with (first
            | (go_at_call 62; refine HE3.out.mono ?_; intro e w8 hp; obtain ⟨p, cc, rfl, ho8, HF⟩ := RPG.fail hno hp; have h0 := HF (fun c l3 => .ok (Go.Proofs.YtiigclkebnmopaaGreatDoor.bx (sg l1) [x, c]) l3) w (HB8.out.sx.only.trans ho8); rw [HK3.out] at h0; have HFF := Lib.hid h0; clear h0 hp ho8 HF; unfold rpan; go_wp2_with fail; refine region_ends w8 ?_ ?_; (refine ⟨rfl, ?_⟩; rw [← HQ.out]; exact HFF.out)))
          all_goals trivial
      | false =>
        have HK3 := Lib.hid ((if_neg (show ¬ target x = true by rw [htx]; decide)).symm.trans HK2.out)
        have HW := Lib.hid (abad_any b T (gap l1) w6 HB6.out.sx.rd)
        clear htx
        go_wp2_with fail
        refine HW.out.mono ?_
        intro e w8 hw
        obtain ⟨hpg, p, cc, rfl⟩ := RPG.badAt hw HB6.out.sx.only
        rw [badAt_gap, HK3.out] at hpg
        have HPG := Lib.hid hpg
        clear hw hpg HW
        unfold rpan
        go_wp2_with fail
        rw [← HQ.out]
        exact ⟨rfl, HPG.out⟩
    · have HLr := Lib.hid ((if_neg hmem).symm.trans HK.out)
      rw [show decide (sg l1 ∈ rasg) = false from decide_eq_false (fun h => hmem ((rasg_mem _).1 h))]
      obtain ⟨c0, c1, c2, c3, cf⟩ := HB5.out.four.cells
      obtain ⟨d0, d1, d2, d3, df⟩ := HB5.out.sx.res.cells
      have hlt4 := HB5.out.sx.lt
      have HE := Lib.hid (HB5.out.gives HLr.out.symm)
      clear hmem HK
      go_wp2_with fail
      obtain ⟨q0, q1, q2, q3, qf⟩ := HE.out.2.cells
      unfold set4 at q0 q1 q2 q3
      refine bodyPost_ret (v := .agg #[.string (toB x.op), .int .i64 (n : Int), .string (toB nm), .slice A k c]) (by simp [results, Tryz.results62, go_sem, q0, q1, q2, q3]) rfl ?_
      rw [← HQ.out]
      exact HE.out.1
  · obtain ⟨p, c, rfl, ho2, HF⟩ := RPG.fail hno hp
    have HO2 := Lib.hid (HX1.out.only.trans ho2)
    have HFF := Lib.hid HF
    clear hp hno ho2 HF
    unfold rpan
    go_wp2_with fail
    rw [← HQ.out, ← HO.out]
    exact ⟨rfl, HFF.out _ _ HO2.out⟩

end Go.Proofs.YtiigclkebnmopaaGreatDoor

namespace Go.Proofs.YtiigclkebnmopaaGreatDoor
open Go.RowKit Go.Shelf

theorem pu_inner (base : Nat) (hb : base = 8 ∨ base = 10 ∨ base = 16) (L : List UInt8) (hW : ∀ c ∈ L, isW c = true) (hmax : L.length ≤ 16384) (w : World) :
    Calls Tryz.prog 240 #[.string (toB L), .int .i64 (base : Int), .int .i64 63] w (PuGives base L w) := by
  rcases hb with rfl | rfl | rfl
  · exact pu_8 L hW hmax w
  · exact pu_10 L hW hmax w
  · exact pu_16 L hW hmax w
/-- what ParseUint gives -/
def PuOut (base : Nat) (L : List UInt8) (w : World) (e : Ending) (w' : World) : Prop :=
  (match (if L = [] then none else numV base L 0) with
  | some n => e = .returned (.tuple #[.int .u64 (n : Int), .nilIface])
  | none => ∃ (u : Int) (t : TypeId) (v : Value), e = .returned (.tuple #[.int .u64 u, .iface t v])) ∧ Below w.heap.size w w'
set_option maxRecDepth 100000 in
set_option maxHeartbeats 3200000 in
theorem pu_any (b base : Nat) (hb : base = 8 ∨ base = 10 ∨ base = 16) (L : List UInt8) (hW : ∀ c ∈ L, isW c = true) (hmax : L.length ≤ 16384) (w : World) (hm : RMX b w) :
    Calls Tryz.prog 238 #[.string (toB L), .int .i64 (base : Int), .int .i64 63] w (PuOut base L w) := by
  have HI := Lib.hid (pu_inner base hb L hW hmax w)
  obtain ⟨Q, hQ⟩ : ∃ Q, PuOut base L w = Q := ⟨_, rfl⟩
  rw [hQ]
  have HQ := Lib.hid hQ
  have hsz := toB_size L
  clear hQ hW hb
  go_enter Tryz.func238, Tryz.ntmps238
  go_wp2_with fail
  refine HI.out.mono ?_
  rintro e w2 ⟨he, hb2⟩
  have HB2 := Lib.hid hb2
  cases ho : (if L = [] then none else numV base L 0) with
  | some n =>
    rw [ho] at he
    obtain rfl : e = .returned (.tuple #[.int .u64 (n : Int), .nilIface]) := he
    have HO := Lib.hid ho
    clear ho hb2
    go_wp2_with fail
    rw [← HQ.out]
    unfold PuOut
    rw [HO.out]
    exact ⟨rfl, HB2.out⟩
  | none =>
    rw [ho] at he
    obtain ⟨u, c, hc, rfl⟩ : ∃ (u c : Int), (c = 1 ∨ c = 2) ∧ e = .returned (.tuple #[.int .u64 u, .iface 292 (.int .i64 c)]) := he
    have HO := Lib.hid ho
    obtain ⟨_, _, h7, ⟨v6, hv6, he6⟩, v7, hv7, he7⟩ := hm
    have k6 := (World.cell?_of_block (a := ⟨6, 0, none⟩) (hb2.block 6 (by omega))).trans hv6
    have k7 := (World.cell?_of_block (a := ⟨7, 0, none⟩) (hb2.block 7 h7)).trans hv7
    clear ho hb2
    rcases hc with rfl | rfl
    · go_wp2_with fail
      refine (Tryz.strconv_toError_range _ (toB L) _ _ v7 w2 (by omega) k7 he7).mono ?_
      rintro e w3 ⟨N, rfl, hN, _, hb3⟩
      have HB3 := Lib.hid (HB2.out.trans (hb3.mono HB2.out.size))
      clear hb3
      go_wp2_with fail
      rw [← HQ.out]
      unfold PuOut
      rw [HO.out]
      exact ⟨⟨_, _, _, rfl⟩, HB3.out⟩
    · go_wp2_with fail
      refine (Tryz.strconv_toError_syntax _ (toB L) _ _ v6 w2 (by omega) k6 he6).mono ?_
      rintro e w3 ⟨N, rfl, hN, _, hb3⟩
      have HB3 := Lib.hid (HB2.out.trans (hb3.mono HB2.out.size))
      clear hb3
      go_wp2_with fail
      rw [← HQ.out]
      unfold PuOut
      rw [HO.out]
      exact ⟨⟨_, _, _, rfl⟩, HB3.out⟩

theorem ib_no (c : UInt8) : ∀ (l : List UInt8), c ∉ l → Lib.indexByte l c = -1
  | [], _ => rfl
  | a :: l, h => by
    have h1 : (a == c) = false := by
      rw [beq_eq_false_iff_ne]
      exact fun e => h (by rw [e]; exact List.mem_cons_self)
    have h2 := ib_no c l (fun hm => h (List.mem_cons_of_mem _ hm))
    simp [Lib.indexByte, h1, h2]
theorem RSX.drewN {w W : World} {b bx : Nat} {T l : List UInt8} (h : RSX w b bx T l W) (n : Nat) : RSX w b bx T l (W.drewN n) := ⟨h.rd.drewN n, h.only.drewN n, h.res, h.ne⟩
theorem numV_le (base : Nat) : ∀ (L : List UInt8) (n m : Nat), n ≤ maxN → numV base L n = some m → m ≤ maxN
  | [], n, m, h0, h => by unfold numV at h; cases h; exact h0
  | c :: r, n, m, _, h => by
    unfold numV at h
    split at h
    · rename_i hc
      exact numV_le base r _ _ hc.2 h
    · cases h
theorem digs_sub (s : List UInt8) : ∀ c ∈ digsOf s, c ∈ s := by
  intro c h
  unfold digsOf at h
  split at h
  · exact List.mem_of_mem_drop h
  · split at h
    · exact List.mem_of_mem_drop h
    · exact h
theorem numV_clean (base : Nat) (hb : base ≤ 16) : ∀ (L : List UInt8) (n m : Nat), numV base L n = some m → (95 : UInt8) ∉ L
  | [], _, _, _ => by simp
  | c :: r, n, m, h => by
    unfold numV at h
    split at h
    · rename_i hc
      have h1 := numV_clean base hb r _ _ h
      intro hm
      rcases List.mem_cons.1 hm with e | hm
      · rw [← e] at hc
        have : dv 95 = 99 := by decide
        omega
      · exact h1 hm
    · cases h
theorem run_all (q : UInt8 → Bool) : ∀ (l : List UInt8), ∀ c ∈ (run q l).1, q c = true
  | [], c, h => by simp [run] at h
  | [a], c, h => by
    unfold run at h
    split at h
    · simp at h; rw [h]; assumption
    · simp at h
  | a :: b :: r, c, h => by
    unfold run at h
    split at h
    · exact run_all q r c h
    · split at h
      · rcases List.mem_cons.1 h with e | h
        · rw [e]; assumption
        · exact run_all q (b :: r) c h
      · simp at h

set_option maxRecDepth 100000 in
set_option maxHeartbeats 6400000 in
theorem rnumber_any (b : Nat) (T g : List UInt8) (w : World) (h : RRd w b T g) (hm : RMX b w) :
    Calls Tryz.prog 229 #[.pointer (some ⟨b, 0, none⟩)] w (RPG b T (numeral g) w) := by
  have HX0 := Lib.hid (RSX.start h)
  have HM := Lib.hid hm
  have hlt := h.lt
  obtain ⟨Q, hQ⟩ : ∃ Q, RPG b T (numeral g) w = Q := ⟨_, rfl⟩
  rw [hQ]
  have HQ := Lib.hid hQ
  clear hQ h hm
  go_enter Tryz.func229, Tryz.ntmps229
  have hltb : b < (w.alloc (.cells #[.string ⟨#[]⟩, .int .i64 0, .string ⟨#[]⟩, .slice none 0 0] 25)).heap.size := HX0.out.rd.lt
  go_upto_region 1 with fail
  generalize w.alloc (.cells #[.string ⟨#[]⟩, .int .i64 0, .string ⟨#[]⟩, .slice none 0 0] 25) = w1 at *
  obtain ⟨bx, hbx⟩ : ∃ bx, w.heap.size = bx := ⟨_, rfl⟩
  rw [hbx] at HX0
  simp only [hbx]
  clear hbx
  obtain ⟨p1, j1, hp1, hd1, k0, k1, k5, kf, kbx⟩ := HX0.out.rd.cells
  have HPl := Lib.hid (show plc T g = (p1 : Int) by unfold plc; omega)
  clear kbx hd1 hp1 k0 k5 kf
  go_wp2_with fail
  refine (wordRun_any b T g w1 HX0.out.rd).mono ?_
  rintro e w2 ⟨rfl, hr2, ho2⟩
  have HX2 := Lib.hid (HX0.out.step hr2 ho2)
  have hs0 : (run isW g).1.length ≤ 16384 := by have h1 := run_len isW g; have h2 := HX0.out.rd.le; omega
  have HW := Lib.hid (run_all isW g)
  have HNm := Lib.hid (show numeral g = match numOf (run isW g).1 with | some n => .ok (.mk [110] n [] []) (run isW g).2 | none => .bad g from rfl)
  clear hr2 ho2 HX0 k1 hltb
  generalize (run isW g).1 = s at *
  generalize (run isW g).2 = r at *
  have hsz := toB_size s
  go_upto_block 0 with fail
  go_cut [5, 6] (fun s5 s6 wx => s6 = .string (toB (digsOf s)) ∧ s5 = .int .i64 (baseOf s : Int) ∧ Hid (∃ nq, wx = w2.drewN nq))
  case first =>
    have HFn := Lib.hid (Lib.hid (show ∃ nq, w2 = w2.drewN nq from ⟨0, rfl⟩))
    by_cases h1 : s.take 2 = [48, 120]
    · have hp : Lib.hasPrefix s [48, 120] = true := by
        obtain ⟨r, hr⟩ : ∃ r, s = 48 :: 120 :: r := ⟨s.drop 2, by rw [← List.take_append_drop 2 s, h1]; rfl⟩
        rw [hr]
        simp [Lib.hasPrefix]
      have hl2 : 2 ≤ s.length := by
        have := congrArg List.length h1
        simp at this
        omega
      have hex := toB_drop s 2
      have HE := Lib.hid (show digsOf s = s.drop 2 ∧ baseOf s = 16 from ⟨by unfold digsOf; rw [if_pos h1], by unfold baseOf; rw [if_pos h1]⟩)
      have HP : Hid (∀ W, Calls Tryz.prog 58 #[.string (toB s), .string ⟨#[48, 120]⟩] W fun e w' => e = .returned (.bool true) ∧ w' = W) := Lib.hid (fun W => by
        have := Tryz.strings_HasPrefix (toB s) ⟨#[48, 120]⟩ W
        rw [toB_list, show (⟨#[48, 120]⟩ : ByteArray).data.toList = [48, 120] from rfl, hp] at this
        exact this)
      clear h1 hp
      go_wp2_with fail
      refine (HP.out _).mono ?_
      rintro e w2 ⟨rfl, rfl⟩
      go_wp2_with fail
      go_quiet (fail)
      go_wp2_with fail
      go_meet
      exact ⟨by rw [HE.out.1] <;> first | rfl | rw [List.drop_one], by rw [HE.out.2]; rfl, Lib.hid ⟨_, rfl⟩⟩
    · have hp : Lib.hasPrefix s [48, 120] = false := by
        cases hq : Lib.hasPrefix s [48, 120] with
        | false => rfl
        | true =>
          obtain ⟨r, hr⟩ := List.isPrefixOf_iff_prefix.1 hq
          exact absurd (by rw [← hr]; rfl) h1
      have HP : Hid (∀ W, Calls Tryz.prog 58 #[.string (toB s), .string ⟨#[48, 120]⟩] W fun e w' => e = .returned (.bool false) ∧ w' = W) := Lib.hid (fun W => by
        have := Tryz.strings_HasPrefix (toB s) ⟨#[48, 120]⟩ W
        rw [toB_list, show (⟨#[48, 120]⟩ : ByteArray).data.toList = [48, 120] from rfl, hp] at this
        exact this)
      clear hp
      by_cases h2 : 1 < s.length
      · have h0 : 0 < (toB s).size := by rw [hsz]; omega
        have hg := toB_get s 0 h0
        have hl1 : (1 : Int) < (s.length : Int) := by omega
        by_cases h3 : s[0] = 48
        · have hat : ((toB s)[0]'h0) = 48 := hg.trans h3
          have h4 : s.take 1 = [48] := by
            rw [List.take_one, ← h3]
            cases s with
            | nil => simp at h2
            | cons a r => rfl
          have hex := toB_drop s 1
          have HE := Lib.hid (show digsOf s = s.drop 1 ∧ baseOf s = 8 from ⟨by unfold digsOf; rw [if_neg h1, if_pos ⟨h2, h4⟩], by unfold baseOf; rw [if_neg h1, if_pos ⟨h2, h4⟩]⟩)
          clear h1 h3 h4 hg
          go_wp2_with fail
          refine (HP.out _).mono ?_
          rintro e w2 ⟨rfl, rfl⟩
          go_wp2_with fail
          go_quiet (fail)
          go_wp2_with fail
          go_meet
          exact ⟨by rw [HE.out.1] <;> first | rfl | rw [List.drop_one], by rw [HE.out.2]; rfl, Lib.hid ⟨_, rfl⟩⟩
        · have hat : (((toB s)[0]'h0).toNat : Int) ≠ 48 := by
            rw [hg]
            exact fun e => h3 (UInt8.toNat_inj.1 (show s[0].toNat = 48 by omega))
          have hate : ((((toB s)[0]'h0).toNat : Int) == 48) = false := by rw [beq_eq_false_iff_ne]; exact hat
          have h4 : s.take 1 ≠ [48] := fun e => h3 (by
            rw [List.take_one] at e
            cases s with
            | nil => simp at h2
            | cons a r =>
              have e2 : some a = some 48 := by simpa using e
              exact Option.some.inj e2)
          have HE := Lib.hid (show digsOf s = s ∧ baseOf s = 10 from ⟨by unfold digsOf; rw [if_neg h1, if_neg (fun h => h4 h.2)], by unfold baseOf; rw [if_neg h1, if_neg (fun h => h4 h.2)]⟩)
          clear h1 h3 h4 hg hat
          go_wp2_with fail
          refine (HP.out _).mono ?_
          rintro e w2 ⟨rfl, rfl⟩
          go_wp2_with fail
          go_meet
          exact ⟨by rw [HE.out.1] <;> first | rfl | rw [List.drop_one], by rw [HE.out.2]; rfl, HFn.out⟩
      · have HE := Lib.hid (show digsOf s = s ∧ baseOf s = 10 from ⟨by unfold digsOf; rw [if_neg h1, if_neg (fun h => h2 h.1)], by unfold baseOf; rw [if_neg h1, if_neg (fun h => h2 h.1)]⟩)
        clear h1
        go_wp2_with fail
        refine (HP.out _).mono ?_
        rintro e w2 ⟨rfl, rfl⟩
        go_wp2_with fail
        go_meet
        exact ⟨by rw [HE.out.1] <;> first | rfl | rw [List.drop_one], by rw [HE.out.2]; rfl, HFn.out⟩
  case rest =>
    obtain ⟨rfl, rfl, hw⟩ := hcut
    obtain ⟨nq, rfl⟩ := hw.out
    have HX3 := Lib.hid (HX2.out.drewN nq)
    have hbase : baseOf s = 8 ∨ baseOf s = 10 ∨ baseOf s = 16 := by
      unfold baseOf
      split
      · exact .inr (.inr rfl)
      · split
        · exact .inl rfl
        · exact .inr (.inl rfl)
    have hdl : (digsOf s).length ≤ 16384 := by
      unfold digsOf
      split
      · simp; omega
      · split
        · simp; omega
        · exact hs0
    have HF := Lib.hid (show numOf s = if digsOf s = [] then none else numV (baseOf s) (digsOf s) 0 from rfl)
    have hWd : ∀ c ∈ digsOf s, isW c = true := fun c hc => HW.out c (digs_sub s c hc)
    clear HX2 hw HW
    generalize w2.drewN nq = w3 at *
    have HP := Lib.hid (pu_any b (baseOf s) hbase (digsOf s) hWd hdl w3 (HM.out.only HX3.out.only))
    have hb16 : baseOf s ≤ 16 := by omega
    clear hbase hWd hsz hs0
    generalize digsOf s = ds at *
    generalize baseOf s = base at *
    have hdz := toB_size ds
    go_wp2_with fail
    refine HP.out.mono ?_
    rintro e w4 ⟨he, hb4⟩
    have HX4 := Lib.hid (HX3.out.below hb4)
    clear hb4 HP HX3
    cases hn : numOf s with
    | none =>
      rw [← HF.out, hn] at he
      obtain ⟨u, t, v, rfl⟩ : ∃ (u : Int) (t : TypeId) (v : Value), e = .returned (.tuple #[.int .u64 u, .iface t v]) := he
      have HO := Lib.hid (show numeral g = .bad g by rw [HNm.out, hn])
      clear hn
      go_wp2_with fail
      refine (rfail_any _ _ _).mono ?_
      rintro e w7 ⟨rfl, rfl⟩
      unfold rpan
      go_wp2_with fail
      rw [← HQ.out, HO.out]
      exact ⟨rfl, ⟨by rw [HPl.out]; rfl, HX4.out.only⟩⟩
    | some n =>
      rw [← HF.out, hn] at he
      obtain rfl : e = .returned (.tuple #[.int .u64 (n : Int), .nilIface]) := he
      have HO := Lib.hid (show numeral g = .ok (.mk [110] n [] []) r by rw [HNm.out, hn])
      have hv : numV base ds 0 = some n := by
        have h := HF.out
        rw [hn] at h
        split at h
        · cases h
        · exact h.symm
      have hle := numV_le base ds 0 n (by unfold maxN; omega) hv
      have hcl := numV_clean base hb16 ds 0 n hv
      have HC := Lib.hid (Tryz.strings_Contains_one (toB ds) 95 w4)
      rw [toB_list, ib_no 95 ds hcl, show decide ((0 : Int) ≤ -1) = false from by decide] at HC
      unfold maxN at hle
      have e1 : IntKind.i64.wrap (n : Int) = (n : Int) := IntWalk.i64_in _ (by omega)
      have HE := Lib.hid (HX4.out.givesF [110] [] n HO.out)
      obtain ⟨d0, d1, d2, d3, df⟩ := HX4.out.res.cells
      clear hn hv hcl
      go_wp2_with fail
      refine HC.out.mono ?_
      rintro e w5 ⟨rfl, rfl⟩
      go_wp2_with fail
      obtain ⟨q0, q1, q2, q3, qf⟩ := HE.out.2.cells
      unfold set4 at q0 q1 q2 q3
      rw [show toB [] = (⟨#[]⟩ : ByteArray) from rfl, show toB [110] = (⟨#[110]⟩ : ByteArray) from rfl] at q0 q1 q2 q3
      refine bodyPost_ret (v := .agg #[.string ⟨#[110]⟩, .int .i64 (n : Int), .string ⟨#[]⟩, .slice none 0 0]) (by simp [results, Tryz.results229, go_sem, q0, q1, q2, q3]) rfl ?_
      rw [← HQ.out]
      exact HE.out.1

end Go.Proofs.YtiigclkebnmopaaGreatDoor

namespace Go.Proofs.YtiigclkebnmopaaGreatDoor
open Go.RowKit Go.Shelf

theorem isNm_run {c : UInt8} {r : List UInt8} (hs : skipJ (c :: r) = c :: r) (hc : isL c = true) : isNm (run isW (c :: r)).1 = decide ((run isW (c :: r)).1.length ≤ 64) := by
  have hw : isW c = true := by unfold isW; rw [hc]; rfl
  have ha := run_all isW (c :: r)
  have h := run_cons (q := isW) hs
  rw [if_pos hw] at h
  rw [h] at ha ⊢
  by_cases hl : (c :: (run isW r).1).length ≤ 64
  · rw [isNm_let hl hc, decide_eq_true hl, List.all_eq_true]
    exact ha
  · rw [isNm_long hl, decide_eq_false hl]
theorem dollarB_eq {b : Bool} {g l r : List UInt8} {c : UInt8} (hk : skipJ l = c :: r) : dollarB b g l = if isL c = true then (if (run isW l).1.length ≤ 64 then brace b g (run isW l).2 (run isW l).1 else .bad g)
    else if b = true ∧ isD c = true then (if posOk (run isD l).1 = true then brace b g (run isD l).2 (run isD l).1 else .bad g)
    else if isD c = true ∨ c = 35 ∨ c = 63 then brace b g r [c] else .bad g := by
  unfold dollarB
  rw [hk]
set_option maxRecDepth 100000 in
set_option maxHeartbeats 6400000 in
theorem rdollar_any (b : Nat) (T g : List UInt8) (w : World) (h : RRd w b T g) (hg : skipJ g = g) :
    Calls Tryz.prog 231 #[.pointer (some ⟨b, 0, none⟩), .int .i64 (plc T g)] w (RPG b T (dollar g) w) := by
  have HX0 := Lib.hid (RSX.start h)
  have hlt := h.lt
  obtain ⟨o, ho⟩ : ∃ o, dollar g = o := ⟨_, rfl⟩
  obtain ⟨Q, hQ⟩ : ∃ Q, RPG b T o w = Q := ⟨_, rfl⟩
  rw [ho, hQ]
  have HQ := Lib.hid hQ
  have HD := Lib.hid (show o = dollarB (takeS [123] (g.drop 1)).isSome g ((takeS [123] (g.drop 1)).getD (g.drop 1)) by
    rw [← ho]
    unfold dollar
    cases takeS [123] (g.drop 1) <;> rfl)
  obtain ⟨pl, hpl⟩ : ∃ pl, plc T g = pl := ⟨_, rfl⟩
  have HPL := Lib.hid hpl
  rw [hpl]
  have HG := Lib.hid hg
  clear hQ h ho hpl hg
  go_enter Tryz.func231, Tryz.ntmps231
  go_wp2_with fail
  generalize w.alloc (.cells #[.string ⟨#[]⟩, .int .i64 0, .string ⟨#[]⟩, .slice none 0 0] 25) = w1 at *
  obtain ⟨bx, hbx⟩ : ∃ bx, w.heap.size = bx := ⟨_, rfl⟩
  rw [hbx] at HX0
  simp only [hbx]
  clear hbx
  refine (rnext_any b T g w1 HX0.out.rd).mono ?_
  rintro e w2 ⟨rfl, hr2, ho2⟩
  rw [HG.out] at hr2
  have HX2 := Lib.hid (HX0.out.step hr2 ho2)
  clear hr2 ho2 HX0
  go_wp2_with fail
  refine (rgot_any b T (g.drop 1) [123] w2 HX2.out.rd (by decide) (by decide)).mono ?_
  rintro e w3 ⟨rfl, hr3, ho3⟩
  have HX3 := Lib.hid (HX2.out.step hr3 ho3)
  clear hr3 ho3 HX2
  generalize (takeS [123] (g.drop 1)).getD (g.drop 1) = l at *
  generalize (takeS [123] (g.drop 1)).isSome = bb at *
  go_wp2_with fail
  refine (rpeek_any b T l w3 HX3.out.rd).mono ?_
  rintro e w5 ⟨rfl, hr5, ho5⟩
  have HX5 := Lib.hid (HX3.out.step hr5 ho5)
  clear hr5 ho5 HX3
  have HSk := Lib.hid (skipJ_skipJ l)
  obtain ⟨hc, hhc⟩ : ∃ hc, headB (skipJ l) = hc := ⟨_, rfl⟩
  have HH := Lib.hid hhc
  rw [hhc]
  clear hhc
  go_upto_block 0 with fail
  go_cut [7] (fun v wx => ∃ nm l3, v = .string (toB nm) ∧ Hid (RSX w b bx T l3 wx) ∧ Hid (o = brace bb g l3 nm))
  case first =>
    cases hk : skipJ l with
    | nil =>
      have HOm := Lib.hid (show o = .more by rw [HD.out]; unfold dollarB; rw [hk])
      obtain rfl : hc = 0 := HH.out.symm.trans (by rw [hk]; rfl)
      have z1 : (((0 : UInt8).toNat : Int) == 35) = false := by decide
      have z2 : (((0 : UInt8).toNat : Int) == 63) = false := by decide
      have z3 : (((0 : UInt8).toNat : Int) == 0) = true := by decide
      clear hk HH
      go_wp2_with fail
      refine (rletter_any 0 _).mono ?_
      rintro e w8 ⟨rfl, rfl⟩
      rw [isL_zero]
      go_wp2_with fail
      refine (rdigit_any 0 _).mono ?_
      rintro e w8 ⟨rfl, rfl⟩
      rw [isD_zero]
      go_wp2_with fail
      refine (rdigit_any 0 _).mono ?_
      rintro e w8 ⟨rfl, rfl⟩
      rw [isD_zero]
      go_wp2_with fail
      refine (rmore_any b T _ _ HX5.out.rd).mono ?_
      rintro e w9 ⟨rfl, rfl⟩
      unfold rpan
      go_wp2_with fail
      rw [← HQ.out]
      exact ⟨rfl, (show RPG b T o w (rpan T.length 27) _ by rw [HOm.out]; exact ⟨rfl, HX5.out.only⟩)⟩
    | cons c r =>
      have HO6 := Lib.hid (HD.out.trans (dollarB_eq hk))
      have hrW : run isW l = run isW (c :: r) := by rw [← run_skipJ l, hk]
      have hrD : run isD l = run isD (c :: r) := by rw [← run_skipJ l, hk]
      rw [hrW, hrD] at HO6
      rw [hk] at HX5 HSk
      obtain rfl : hc = c := HH.out.symm.trans (by rw [hk]; rfl)
      clear HH
      have hcz : hc ≠ 0 := fun e => HX5.out.rd.sub (by rw [e]; exact List.mem_cons_self)
      have hz0 : ((hc.toNat : Int) == 0) = false := by
        rw [beq_eq_false_iff_ne]
        intro e
        exact hcz (UInt8.toNat_inj.1 (by show hc.toNat = 0; omega))
      clear hk hrW hrD hcz HD
      by_cases h35 : hc = 35
      · have he : ((hc.toNat : Int) == 35) = true := by rw [h35]; rfl
        have HO7 := Lib.hid (show o = brace bb g r [hc] by rw [HO6.out, if_neg (by rw [h35]; decide), if_neg (by rw [h35]; exact fun h => absurd h.2 (by decide)), if_pos (.inr (.inl h35))])
        clear h35
        obtain ⟨p6, j6, hp6, hd6, c0, c1, c5, cf, hbx6⟩ := HX5.out.rd.cells
        have hlen : (hc :: r).length = r.length + 1 := rfl
        rw [hlen] at hp6
        have hT := HX5.out.rd.len
        have e1 : IntKind.i64.wrap ((p6 : Int) + 1) = (p6 : Int) + 1 := IntWalk.i64_in _ (by omega)
        have HF := HX5.out.rd.store (q := p6 + 1) (l' := r) (by omega) (by rw [← List.drop_drop, hd6]; rfl)
        rw [show ((p6 + 1 : Nat) : Int) = (p6 : Int) + 1 by simp] at HF
        have HX6 := Lib.hid (HX5.out.step HF ((Only.refl b w5).setCell (i := 1) (.int .i64 ((p6 : Int) + 1))))
        clear hbx6 hd6 c0 c5 HF
        go_upto_region 8 with fail
        clear c1 cf hp6
        generalize w5.setCell ⟨b, 1, none⟩ (.int .i64 ((p6 : Int) + 1)) = w6 at *
        have hba := (Below.refl w6.heap.size w6).alloc (Nat.le_refl _) (.cells #[.int .u8 (hc.toNat : Int)] 5)
        have HX7 := Lib.hid (HX6.out.below hba)
        have hcv := one_string w6 hc
        clear hba
        go_wp2_with fail
        go_meet
        exact ⟨[hc], r, rfl, HX7, HO7⟩
      · have he : ((hc.toNat : Int) == 35) = false := by
          rw [beq_eq_false_iff_ne]
          exact fun e => h35 (UInt8.toNat_inj.1 (show hc.toNat = 35 by omega))
        by_cases h63 : hc = 63
        · have he2 : ((hc.toNat : Int) == 63) = true := by rw [h63]; rfl
          have HO7 := Lib.hid (show o = brace bb g r [hc] by rw [HO6.out, if_neg (by rw [h63]; decide), if_neg (by rw [h63]; exact fun h => absurd h.2 (by decide)), if_pos (.inr (.inr h63))])
          clear h35 h63
          obtain ⟨p6, j6, hp6, hd6, c0, c1, c5, cf, hbx6⟩ := HX5.out.rd.cells
          have hlen : (hc :: r).length = r.length + 1 := rfl
          rw [hlen] at hp6
          have hT := HX5.out.rd.len
          have e1 : IntKind.i64.wrap ((p6 : Int) + 1) = (p6 : Int) + 1 := IntWalk.i64_in _ (by omega)
          have HF := HX5.out.rd.store (q := p6 + 1) (l' := r) (by omega) (by rw [← List.drop_drop, hd6]; rfl)
          rw [show ((p6 + 1 : Nat) : Int) = (p6 : Int) + 1 by simp] at HF
          have HX6 := Lib.hid (HX5.out.step HF ((Only.refl b w5).setCell (i := 1) (.int .i64 ((p6 : Int) + 1))))
          clear hbx6 hd6 c0 c5 HF
          go_upto_region 8 with fail
          clear c1 cf hp6
          generalize w5.setCell ⟨b, 1, none⟩ (.int .i64 ((p6 : Int) + 1)) = w6 at *
          have hba := (Below.refl w6.heap.size w6).alloc (Nat.le_refl _) (.cells #[.int .u8 (hc.toNat : Int)] 5)
          have HX7 := Lib.hid (HX6.out.below hba)
          have hcv := one_string w6 hc
          clear hba
          go_wp2_with fail
          go_meet
          exact ⟨[hc], r, rfl, HX7, HO7⟩
        · have he2 : ((hc.toNat : Int) == 63) = false := by
            rw [beq_eq_false_iff_ne]
            exact fun e => h63 (UInt8.toNat_inj.1 (show hc.toNat = 63 by omega))
          cases hL : isL hc with
          | true =>
            have HO7 := Lib.hid (show o = if (run isW (hc :: r)).1.length ≤ 64 then brace bb g (run isW (hc :: r)).2 (run isW (hc :: r)).1 else .bad g by rw [HO6.out, if_pos hL])
            have HLt := Lib.hid hL
            have HNm := Lib.hid (isNm_run HSk.out hL)
            clear hL h35 h63
            go_wp2_with fail
            refine (rletter_any hc _).mono ?_
            rintro e w8 ⟨rfl, rfl⟩
            rw [HLt.out]
            go_wp2_with fail
            refine (wordRun_any b T (hc :: r) w5 HX5.out.rd).mono ?_
            rintro e w6 ⟨rfl, hr6, ho6⟩
            have HX6 := Lib.hid (HX5.out.step hr6 ho6)
            clear hr6 ho6
            go_wp2_with fail
            refine (risName_any (run isW (hc :: r)).1 _).mono ?_
            rintro e w7 ⟨rfl, rfl⟩
            rw [HNm.out]
            by_cases hl : (run isW (hc :: r)).1.length ≤ 64
            · have HO8 := Lib.hid (HO7.out.trans (if_pos hl))
              rw [decide_eq_true hl]
              go_wp2_with fail
              go_meet
              exact ⟨_, _, rfl, HX6, HO8⟩
            · have HO8 := Lib.hid (HO7.out.trans (if_neg hl))
              rw [decide_eq_false hl]
              go_wp2_with fail
              refine (rfail_any _ _ _).mono ?_
              rintro e w9 ⟨rfl, rfl⟩
              unfold rpan
              go_wp2_with fail
              rw [← HQ.out]
              exact ⟨rfl, (show RPG b T o w (rpan pl 1) _ by rw [HO8.out]; exact ⟨by rw [HPL.out], HX6.out.only⟩)⟩
          | false =>
            have HLt := Lib.hid hL
            cases hD : isD hc with
            | true =>
              have HDt := Lib.hid hD
              cases bb with
              | true =>
                have HO7 := Lib.hid (show o = if posOk (run isD (hc :: r)).1 = true then brace true g (run isD (hc :: r)).2 (run isD (hc :: r)).1 else .bad g by rw [HO6.out, if_neg (by rw [hL]; decide), if_pos ⟨rfl, hD⟩])
                have hdl : (run isD (hc :: r)).1.length ≤ 16384 := by have h1 := run_len isD (hc :: r); have h2 := HX5.out.rd.le; omega
                clear hL hD h35 h63
                go_wp2_with fail
                refine (rletter_any hc _).mono ?_
                rintro e w8 ⟨rfl, rfl⟩
                rw [HLt.out]
                go_wp2_with fail
                refine (rdigit_any hc _).mono ?_
                rintro e w8 ⟨rfl, rfl⟩
                rw [HDt.out]
                go_wp2_with fail
                refine (digits_any b T (hc :: r) w5 HX5.out.rd).mono ?_
                rintro e w6 ⟨rfl, hr6, ho6⟩
                have HX6 := Lib.hid (HX5.out.step hr6 ho6)
                clear hr6 ho6
                go_wp2_with fail
                refine (rplain_any (run isD (hc :: r)).1 _ hdl).mono ?_
                rintro e w7 ⟨rfl, rfl⟩
                cases hp : posOk (run isD (hc :: r)).1 with
                | true =>
                  have HO8 := Lib.hid (HO7.out.trans (if_pos hp))
                  clear hp
                  go_wp2_with fail
                  go_meet
                  exact ⟨_, _, rfl, HX6, HO8⟩
                | false =>
                  have HO8 := Lib.hid (HO7.out.trans (if_neg (by rw [hp]; decide)))
                  clear hp
                  go_wp2_with fail
                  refine (rfail_any _ _ _).mono ?_
                  rintro e w9 ⟨rfl, rfl⟩
                  unfold rpan
                  go_wp2_with fail
                  rw [← HQ.out]
                  exact ⟨rfl, (show RPG b T o w (rpan pl 1) _ by rw [HO8.out]; exact ⟨by rw [HPL.out], HX6.out.only⟩)⟩
              | false =>
                have HO7 := Lib.hid (show o = brace false g r [hc] by rw [HO6.out, if_neg (by rw [hL]; decide), if_neg (fun h => absurd h.1 (by decide)), if_pos (.inl hD)])
                clear hL hD h35 h63
                obtain ⟨p6, j6, hp6, hd6, c0, c1, c5, cf, hbx6⟩ := HX5.out.rd.cells
                have hlen : (hc :: r).length = r.length + 1 := rfl
                rw [hlen] at hp6
                have hT := HX5.out.rd.len
                have e1 : IntKind.i64.wrap ((p6 : Int) + 1) = (p6 : Int) + 1 := IntWalk.i64_in _ (by omega)
                have HF := HX5.out.rd.store (q := p6 + 1) (l' := r) (by omega) (by rw [← List.drop_drop, hd6]; rfl)
                rw [show ((p6 + 1 : Nat) : Int) = (p6 : Int) + 1 by simp] at HF
                have HX6 := Lib.hid (HX5.out.step HF ((Only.refl b w5).setCell (i := 1) (.int .i64 ((p6 : Int) + 1))))
                clear hbx6 hd6 c0 c5 HF
                go_wp2_with fail
                refine (rletter_any hc _).mono ?_
                rintro e w8 ⟨rfl, rfl⟩
                rw [HLt.out]
                go_wp2_with fail
                refine (rdigit_any hc _).mono ?_
                rintro e w8 ⟨rfl, rfl⟩
                rw [HDt.out]
                go_wp2_with fail
                refine (rdigit_any hc _).mono ?_
                rintro e w8 ⟨rfl, rfl⟩
                rw [HDt.out]
                go_upto_region 19 with fail
                clear c1 cf hp6
                generalize w5.setCell ⟨b, 1, none⟩ (.int .i64 ((p6 : Int) + 1)) = w6 at *
                have hba := (Below.refl w6.heap.size w6).alloc (Nat.le_refl _) (.cells #[.int .u8 (hc.toNat : Int)] 5)
                have HX7 := Lib.hid (HX6.out.below hba)
                have hcv := one_string w6 hc
                clear hba
                go_wp2_with fail
                go_meet
                exact ⟨[hc], r, rfl, HX7, HO7⟩
            | false =>
              have HDt := Lib.hid hD
              have HO7 := Lib.hid (show o = .bad g by rw [HO6.out, if_neg (by rw [hL]; decide), if_neg (fun h => by rw [hD] at h; exact absurd h.2 (by decide)), if_neg (fun h => by rcases h with h | h | h; rw [hD] at h; exact absurd h (by decide); exact h35 h; exact h63 h)])
              clear hL hD h35 h63
              go_wp2_with fail
              refine (rletter_any hc _).mono ?_
              rintro e w8 ⟨rfl, rfl⟩
              rw [HLt.out]
              go_wp2_with fail
              refine (rdigit_any hc _).mono ?_
              rintro e w8 ⟨rfl, rfl⟩
              rw [HDt.out]
              go_wp2_with fail
              refine (rdigit_any hc _).mono ?_
              rintro e w8 ⟨rfl, rfl⟩
              rw [HDt.out]
              go_wp2_with fail
              refine (rfail_any _ _ _).mono ?_
              rintro e w9 ⟨rfl, rfl⟩
              unfold rpan
              go_wp2_with fail
              rw [← HQ.out]
              exact ⟨rfl, (show RPG b T o w (rpan pl 1) _ by rw [HO7.out]; exact ⟨by rw [HPL.out], HX5.out.only⟩)⟩
  case rest =>
    obtain ⟨nm, l3, rfl, HX6, HO6⟩ := hcut
    clear HX5 HSk HD HH
    cases bb with
    | false =>
      obtain ⟨k0, k1, k2, k3, kf⟩ := HX6.out.res.cells
      have HE := Lib.hid (HX6.out.givesF [118] nm 0 (o := o) HO6.out)
      go_wp2_with fail
      obtain ⟨q0, q1, q2, q3, qf⟩ := HE.out.2.cells
      unfold set4 at q0 q1 q2 q3
      rw [show toB [118] = (⟨#[118]⟩ : ByteArray) from rfl] at q0 q1 q2 q3
      refine bodyPost_ret (v := .agg #[.string ⟨#[118]⟩, .int .i64 0, .string (toB nm), .slice none 0 0]) (by simp [results, Tryz.results231, go_sem, q0, q1, q2, q3]) rfl ?_
      rw [← HQ.out]
      exact HE.out.1
    | true =>
      go_wp2_with fail
      refine (rgot_any b T l3 [125] _ HX6.out.rd (by decide) (by decide)).mono ?_
      rintro e w9 ⟨rfl, hr9, ho9⟩
      cases ht : takeS [125] l3 with
      | some r =>
        rw [ht] at hr9
        have HX9 := Lib.hid (HX6.out.step hr9 ho9)
        rw [show (some r).getD l3 = r from rfl] at HX9
        have HO8 := Lib.hid (show o = .ok (vx nm) r by rw [HO6.out]; unfold brace; rw [if_pos rfl, ht])
        clear ht hr9 ho9 HX6
        rw [show (some r).isSome = true from rfl]
        obtain ⟨k0, k1, k2, k3, kf⟩ := HX9.out.res.cells
        have HE := Lib.hid (HX9.out.givesF [118] nm 0 (o := o) HO8.out)
        go_wp2_with fail
        obtain ⟨q0, q1, q2, q3, qf⟩ := HE.out.2.cells
        unfold set4 at q0 q1 q2 q3
        rw [show toB [118] = (⟨#[118]⟩ : ByteArray) from rfl] at q0 q1 q2 q3
        refine bodyPost_ret (v := .agg #[.string ⟨#[118]⟩, .int .i64 0, .string (toB nm), .slice none 0 0]) (by simp [results, Tryz.results231, go_sem, q0, q1, q2, q3]) rfl ?_
        rw [← HQ.out]
        exact HE.out.1
      | none =>
        rw [ht] at hr9
        have HX9 := Lib.hid (HX6.out.step hr9 ho9)
        rw [show (none : Option (List UInt8)).getD l3 = l3 from rfl] at HX9
        have HO8 := Lib.hid (show o = (if skipJ l3 = [] then .more else .bad g) by rw [HO6.out]; unfold brace; rw [if_pos rfl, ht])
        clear ht hr9 ho9 HX6
        rw [show (none : Option (List UInt8)).isSome = false from rfl]
        go_wp2_with fail
        refine (rpeek_any b T l3 _ HX9.out.rd).mono ?_
        rintro e w10 ⟨rfl, hr10, ho10⟩
        have HX10 := Lib.hid (HX9.out.step hr10 ho10)
        clear hr10 ho10 HX9
        cases hk : skipJ l3 with
        | nil =>
          have HOm := Lib.hid (show o = .more by rw [HO8.out, if_pos hk])
          rw [show ((headB []).toNat : Int) = 0 from rfl]
          clear hk
          go_wp2_with fail
          refine (rmore_any b T _ _ HX10.out.rd).mono ?_
          rintro e w9 ⟨rfl, rfl⟩
          unfold rpan
          go_wp2_with fail
          rw [← HQ.out]
          exact ⟨rfl, (show RPG b T o w (rpan T.length 27) _ by rw [HOm.out]; exact ⟨rfl, HX10.out.only⟩)⟩
        | cons c r =>
          have HOm := Lib.hid (show o = .bad g by rw [HO8.out, if_neg (by rw [hk]; simp)])
          rw [show headB (c :: r) = c from rfl]
          have hcz : c ≠ 0 := fun e => HX10.out.rd.sub (by rw [hk, e]; exact List.mem_cons_self)
          have hz0 : ((c.toNat : Int) == 0) = false := by
            rw [beq_eq_false_iff_ne]
            intro e
            exact hcz (UInt8.toNat_inj.1 (by show c.toNat = 0; omega))
          clear hk hcz
          go_wp2_with fail
          refine (rfail_any _ _ _).mono ?_
          rintro e w9 ⟨rfl, rfl⟩
          unfold rpan
          go_wp2_with fail
          rw [← HQ.out]
          exact ⟨rfl, (show RPG b T o w (rpan pl 1) _ by rw [HOm.out]; exact ⟨by rw [HPL.out], HX10.out.only⟩)⟩

end Go.Proofs.YtiigclkebnmopaaGreatDoor
