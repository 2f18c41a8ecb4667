/- Times: the law's text: a field. -/
import Derived.Test.YtlhaidibcocooaaGreatDoorTextB
import Derived.Deep.DeepCutAuto
namespace Go.Proofs.YtlhaidibcocooaaGreatDoor
open Go.RowKit Go.Shelf

/-- the text of a part that is built -/
def PartF (lo hi : Nat) (NM : List ByteArray) (p : ByteArray) : Prop :=
  p = toB [42] ∨ (∃ n, n < 12 ∧ p = toB (42 :: 47 :: Lib.decDigits n)) ∨ TokT lo hi NM p ∨
  (∃ a b, TokT lo hi NM a ∧ TokT lo hi NM b ∧ p = a ++ ⟨#[45]⟩ ++ b) ∨ (∃ a b n, TokT lo hi NM a ∧ TokT lo hi NM b ∧ 1 ≤ n ∧ n < 12 ∧ p = a ++ ⟨#[45]⟩ ++ b ++ ⟨#[47]⟩ ++ toB (Lib.decDigits n))
/-- parts, each with a comma ahead but the first -/
def joinP : List ByteArray → ByteArray
  | [] => ⟨#[]⟩
  | [p] => p
  | p :: q :: r => p ++ ⟨#[44]⟩ ++ joinP (q :: r)
def joinR (L : List ByteArray) : ByteArray := toB (Lib.join (L.map (·.data.toList)) [44])
def sepR (L : List ByteArray) : ByteArray := if L = [] then ⟨#[]⟩ else joinR L ++ ⟨#[44]⟩
theorem tok_size {lo hi : Nat} {NM : List ByteArray} {s : ByteArray} (h : TokT lo hi NM s) (hhi : hi ≤ 59) (hN : ∀ x ∈ NM, x.size ≤ 3) : s.size ≤ 3 := by
  rcases h with ⟨q, _, hq, rfl⟩ | h
  · rw [toB_size]
    have := (dig_ok (n := q) (by omega)).2.1
    omega
  · exact hN s h
theorem part_size {lo hi : Nat} {NM : List ByteArray} {p : ByteArray} (h : PartF lo hi NM p) (hhi : hi ≤ 59) (hN : ∀ x ∈ NM, x.size ≤ 3) : p.size ≤ 12 := by
  rcases h with rfl | ⟨n, hn, rfl⟩ | h | ⟨a, b, ha, hb, rfl⟩ | ⟨a, b, n, ha, hb, _, hn, rfl⟩
  · decide
  · rw [toB_size]
    have := (dig_ok (n := n) (by omega)).2.1
    simp
    omega
  · have := tok_size h hhi hN
    omega
  · have h1 := tok_size ha hhi hN
    have h2 := tok_size hb hhi hN
    simp only [ByteArray.size_append]
    have : (⟨#[45]⟩ : ByteArray).size = 1 := rfl
    omega
  · have h1 := tok_size ha hhi hN
    have h2 := tok_size hb hhi hN
    have h3 := (dig_ok (n := n) (by omega)).2.1
    simp only [ByteArray.size_append, toB_size]
    have : (⟨#[45]⟩ : ByteArray).size = 1 := rfl
    have : (⟨#[47]⟩ : ByteArray).size = 1 := rfl
    omega
theorem join_snoc (L : List (List UInt8)) (p : List UInt8) (c : UInt8) (hne : L ≠ []) : Lib.join (L ++ [p]) [c] = Lib.join L [c] ++ c :: p := by
  induction L with
  | nil => exact absurd rfl hne
  | cons x t ih =>
    cases t with
    | nil => rw [Lib.join_one]; show Lib.join [x, p] [c] = _; rw [join_two, Lib.join_one]
    | cons y t =>
      rw [List.cons_append, List.cons_append, join_two, join_two, ← List.cons_append, ih (by simp)]
      simp
theorem sep_snoc (L : List ByteArray) (p : ByteArray) : sepR L ++ p = joinR (L ++ [p]) := by
  unfold sepR joinR
  split
  · rename_i h
    subst h
    apply ByteArray.ext
    simp [toB, Lib.join_one, ByteArray.data_append]
  · rename_i h
    rw [List.map_append, List.map_cons, List.map_nil, join_snoc _ _ _ (by simpa using h)]
    apply ByteArray.ext
    simp [toB, ByteArray.data_append]
def FieldGives (b k lo hi : Nat) (NM : List ByteArray) (w : World) (e : Ending) (w' : World) : Prop := ∃ L : List ByteArray, e = .returned (.string (joinR L)) ∧ L ≠ [] ∧ L.length ≤ 3 ∧ (∀ p ∈ L, PartF lo hi NM p) ∧ TB w' b (k + 30) ∧ Only b w w'

theorem CE.start {w : World} {b bd k lo hi : Nat} {A : Option Addr} {n c : Nat} {NM : List ByteArray} {T U : TypeId} (hd : w.cell? ⟨bd, 0, none⟩ = some (.pointer (some ⟨b, 0, none⟩))) (hbd : bd ≠ b) (hb : TB w b k) (hn : n = NM.length)
    (hrow : 0 < n → ∃ g, A = some ⟨g, 0, none⟩ ∧ g < w.heap.size ∧ g ≠ b ∧ ∀ j (h : j < NM.length), w.cell? ⟨g, j, none⟩ = some (.string NM[j])) :
    CE (((w.alloc (.cells #[.int .i64 (lo : Int)] T)).alloc (.cells #[.int .i64 (hi : Int)] T)).alloc (.cells #[.slice A n c] U)) b bd w.heap.size (w.heap.size + 1) (w.heap.size + 1 + 1) lo hi A n c NM ∧ Below w.heap.size w (((w.alloc (.cells #[.int .i64 (lo : Int)] T)).alloc (.cells #[.int .i64 (hi : Int)] T)).alloc (.cells #[.slice A n c] U)) := by
  have hlt := hb.lt
  have hbdl : bd < w.heap.size := World.block_lt_of_cell? w _ hd
  have b1 := (Below.refl w.heap.size w).alloc (Nat.le_refl _) (.cells #[.int .i64 (lo : Int)] T)
  have s1 : (w.alloc (.cells #[.int .i64 (lo : Int)] T)).heap.size = w.heap.size + 1 := by simp
  have b2 := (Below.refl _ (w.alloc (.cells #[.int .i64 (lo : Int)] T))).alloc (Nat.le_refl _) (.cells #[.int .i64 (hi : Int)] T)
  have s2 : ((w.alloc (.cells #[.int .i64 (lo : Int)] T)).alloc (.cells #[.int .i64 (hi : Int)] T)).heap.size = w.heap.size + 1 + 1 := by simp
  have b3 := (Below.refl _ ((w.alloc (.cells #[.int .i64 (lo : Int)] T)).alloc (.cells #[.int .i64 (hi : Int)] T))).alloc (Nat.le_refl _) (.cells #[.slice A n c] U)
  have s3 : (((w.alloc (.cells #[.int .i64 (lo : Int)] T)).alloc (.cells #[.int .i64 (hi : Int)] T)).alloc (.cells #[.slice A n c] U)).heap.size = w.heap.size + 1 + 1 + 1 := by simp
  have b13 := b2.trans (b3.mono b2.size)
  have b03 := b1.trans (b13.mono b1.size)
  have c1 := box_cell w #[.int .i64 (lo : Int)] T 0
  have c2 := box_cell (w.alloc (.cells #[.int .i64 (lo : Int)] T)) #[.int .i64 (hi : Int)] T 0
  rw [s1] at c2
  have c3 := box_cell ((w.alloc (.cells #[.int .i64 (lo : Int)] T)).alloc (.cells #[.int .i64 (hi : Int)] T)) #[.slice A n c] U 0
  rw [s2] at c3
  refine ⟨⟨(b03.cell (p := ⟨bd, 0, none⟩) hbdl).trans hd, (b13.cell (p := ⟨w.heap.size, 0, none⟩) (by simp)).trans c1, (b3.cell (p := ⟨w.heap.size + 1, 0, none⟩) (by simp)).trans c2, c3, hn, fun h => ?_, ⟨hbd, by omega, by omega, by omega⟩, ⟨by rw [s3]; omega, by rw [s3]; omega, by rw [s3]; omega, by rw [s3]; omega⟩⟩, b03⟩
  obtain ⟨g, rfl, hg, hgb, hc⟩ := hrow h
  exact ⟨g, rfl, Nat.lt_of_lt_of_le hg b03.size, hgb, fun j hj => (b03.cell (p := ⟨g, j, none⟩) hg).trans (hc j hj)⟩

theorem itoa_one (q : Nat) (h : q < 98) (W : World) : Calls Tryz.prog 35 #[.int .i64 (1 + (q : Int))] W fun e w' => e = .returned (.string (toB (Lib.decDigits (1 + q)))) ∧ w' = W := by
  have := itoa_sum 1 q (by omega) W
  exact this
set_option maxRecDepth 100000 in
set_option maxHeartbeats 6400000 in
theorem field_any (b bd k lo hi : Nat) (A : Option Addr) (n c : Nat) (NM : List ByteArray) (w : World) (hd : w.cell? ⟨bd, 0, none⟩ = some (.pointer (some ⟨b, 0, none⟩))) (hbd : bd ≠ b) (hb : TB w b k) (hk : k ≤ 100000) (h1 : lo ≤ hi) (h2 : hi ≤ 59) (hn : n = NM.length) (hn2 : n ≤ 100) (hN : ∀ x ∈ NM, x.size ≤ 3)
    (hrow : 0 < n → ∃ g, A = some ⟨g, 0, none⟩ ∧ g < w.heap.size ∧ g ≠ b ∧ ∀ j (h : j < NM.length), w.cell? ⟨g, j, none⟩ = some (.string NM[j])) :
    Calls Tryz.prog 32 #[.int .i64 (lo : Int), .int .i64 (hi : Int), .slice A n c, .pointer (some ⟨bd, 0, none⟩)] w (FieldGives b k lo hi NM w) := by
  obtain ⟨hce, hbl⟩ := CE.start (T := 3) (U := 63) (lo := lo) (hi := hi) (c := c) hd hbd hb hn hrow
  have HC := Lib.hid hce
  have HB := Lib.hid (hb.keep hbl)
  have HO := Lib.hid (Only.of (b := b) hbl (Nat.le_refl _))
  obtain ⟨Q, hQ⟩ : ∃ Q, FieldGives b k lo hi NM w = Q := ⟨_, rfl⟩
  rw [hQ]
  have HQ := Lib.hid hQ
  have HN := Lib.hid hN
  clear hQ hrow hb hn hN hd hbd hbl hce
  go_enter Tryz.func32, Tryz.ntmps32
  go_upto_region 3 with fail
  generalize ((w.alloc (.cells #[.int .i64 (lo : Int)] 3)).alloc (.cells #[.int .i64 (hi : Int)] 3)).alloc (.cells #[.slice A n c] 63) = w3 at *
  generalize w.heap.size + 1 + 1 = gn at *
  generalize w.heap.size + 1 = gh at *
  generalize w.heap.size = gl at *
  have HR3 := Lib.hid (roll_t b k 3 w3 HB.out (by omega) (by decide) (by decide))
  have cd := HC.out.d
  go_wp2_with fail
  refine HR3.out.mono ?_
  rintro e w4 ⟨r, rfl, hr, hb4, ho4⟩
  have HC4 := Lib.hid (HC.out.only ho4)
  have HB4 := Lib.hid hb4
  have HO4 := Lib.hid (HO.out.trans ho4)
  clear hb4 ho4 HC HB HO cd HR3
  go_wp2_with fail
  go_loopw [9, 15] (fun s9 s15 wr => ∃ (i : Nat) (L : List ByteArray) (o : ByteArray), s15 = .int .i64 (i : Int) ∧ s9 = .string o ∧ i ≤ 1 + r ∧ o.size ≤ 20 * i ∧ Hid (L.length = i) ∧ Hid (o = joinR L) ∧ Hid (∀ p ∈ L, PartF lo hi NM p) ∧ Hid (CE wr b bd gl gh gn lo hi A n c NM) ∧ Hid (TB wr b (k + 1 + 7 * i)) ∧ Hid (Only b w wr)) (fun _ s15 _ => 1 + r - (intOf s15).toNat)
  case atStart => exact ⟨0, [], ⟨#[]⟩, rfl, rfl, by omega, by decide, rfl, rfl, (fun p hp => absurd hp (by simp)), HC4, HB4, HO4⟩
  case round =>
    clear HC4 HB4 HO4
    obtain ⟨i, L, o, rfl, rfl, hi1, hos, HL, HE, HP, HC, HB, HO⟩ := hrel
    have hr2 : r ≤ 2 := by omega
    by_cases hlt : i < 1 + r
    · have cd := HC.out.d
      have HR5 := Lib.hid (roll_t b (k + 1 + 7 * i) 5 wr HB.out (by omega) (by decide) (by decide))
      go_upto_if 19 with fail
      go_cut [9] (fun s9 wx => ∃ o2 : ByteArray, s9 = .string o2 ∧ o2.size ≤ 20 * i + 1 ∧ Hid (o2 = sepR L) ∧ wx = wr)
      case first =>
        by_cases hi0 : i = 0
        · have HS := Lib.hid (show o = sepR L by
            have h1 := HL.out
            have h2 := HE.out
            rw [hi0] at h1
            have h3 : L = [] := List.length_eq_zero_iff.1 h1
            rw [h2, h3]
            rfl)
          have hi0b : ¬ 0 < i := by omega
          clear hi0
          go_wp2_with fail
          go_meet
          exact ⟨o, rfl, by omega, HS, rfl⟩
        · have HS := Lib.hid (show o ++ ⟨#[44]⟩ = sepR L by
            have h1 := HL.out
            unfold sepR
            rw [if_neg (fun h => by rw [h] at h1; exact hi0 h1.symm), HE.out])
          have hi0b : 0 < i := by omega
          have hsz : (o ++ (⟨#[44]⟩ : ByteArray)).size ≤ 20 * i + 1 := by rw [ByteArray.size_append]; have : (⟨#[44]⟩ : ByteArray).size = 1 := rfl; omega
          have HSz := Lib.hid hsz
          clear hi0 hsz
          go_wp2_with fail
          go_meet
          exact ⟨_, rfl, HSz.out, HS, rfl⟩
      case rest =>
        obtain ⟨o2, rfl, ho2, HS2, rfl⟩ := hcut
        obtain ⟨wd, hwd⟩ : ∃ wd, wd = wc := ⟨_, rfl⟩
        subst hwd
        go_wp2_with fail
        refine HR5.out.mono ?_
        rintro e w5 ⟨r5, rfl, hr5, hb5, ho5⟩
        have HC5 := Lib.hid (HC.out.only ho5)
        have HB5 := Lib.hid hb5
        have HO5 := Lib.hid (HO.out.trans ho5)
        have HL2 := Lib.hid (show ∀ p, (L ++ [p]).length = i + 1 from fun p => by rw [List.length_append, HL.out]; rfl)
        have HP2 := Lib.hid (show ∀ p, PartF lo hi NM p → (∀ q ∈ L ++ [p], PartF lo hi NM q) from fun p hp q hq => by
          rcases List.mem_append.1 hq with h | h
          · exact HP.out q h
          · rw [List.mem_singleton.1 h]; exact hp)
        have HE2 := Lib.hid (show ∀ p, o2 ++ p = joinR (L ++ [p]) from fun p => by rw [HS2.out]; exact sep_snoc L p)
        have HPS := Lib.hid (show ∀ p, PartF lo hi NM p → p.size ≤ 12 from fun p hp => part_size hp h2 HN.out)
        have HTk := Lib.hid (fun kk W (hW : CE W b bd gl gh gn lo hi A n c NM) (hB : TB W b kk) (hkk : kk ≤ 1000000) => tok_any b bd gl gh gn kk lo hi A n c NM W hW hB hkk h1 h2 hn2)
        clear hb5 ho5 HC HB HO cd HR5 HL HE HP HS2
        have hcase : r5 = 0 ∨ r5 = 1 ∨ r5 = 2 ∨ r5 = 3 ∨ r5 = 4 := by omega
        rcases hcase with rfl | rfl | rfl | rfl | rfl
        · have HPp := Lib.hid (show PartF lo hi NM (toB [42]) from .inl rfl)
          have HZ := Lib.hid (show (o2 ++ (⟨#[42]⟩ : ByteArray)).size ≤ 20 * (i + 1) by
            have h := HPS.out _ HPp.out
            rw [ByteArray.size_append]
            have h' : (⟨#[42]⟩ : ByteArray).size ≤ 12 := h
            omega)
          go_wp2_with fail
          exact ⟨⟨i + 1, L ++ [toB [42]], o2 ++ ⟨#[42]⟩, by go_num, rfl, by omega, HZ.out, Lib.hid (HL2.out _), Lib.hid (HE2.out (toB [42])), Lib.hid (HP2.out _ HPp.out), HC5, Lib.hid (HB5.out.more (by omega)), HO5⟩, by simp [intOf]; omega⟩
        · have cd := HC5.out.d
          have HR12 := Lib.hid (roll_t b (k + 1 + 7 * i + 1) 12 w5 HB5.out (by omega) (by decide) (by decide))
          go_wp2_with fail
          refine HR12.out.mono ?_
          rintro e w6 ⟨q, rfl, hq, hb6, ho6⟩
          have HC6 := Lib.hid (HC5.out.only ho6)
          have HB6 := Lib.hid hb6
          have HO6 := Lib.hid (HO5.out.trans ho6)
          clear hb6 ho6 HC5 HB5 HO5 cd HR12
          have HI := Lib.hid (fun W => Tryz.strconv_Itoa_small q (by omega) W)
          have HPp := Lib.hid (show PartF lo hi NM (toB (42 :: 47 :: Lib.decDigits q)) from .inr (.inl ⟨q, by omega, rfl⟩))
          obtain ⟨dq, hdq⟩ : ∃ dq : ByteArray, (⟨(Lib.decDigits q).toArray⟩ : ByteArray) = dq := ⟨_, rfl⟩
          have hpe : (⟨#[42, 47]⟩ : ByteArray) ++ dq = toB (42 :: 47 :: Lib.decDigits q) := by
            rw [← hdq]
            apply ByteArray.ext
            simp [toB, ByteArray.data_append]
          have hds : dq.size ≤ 12 := by
            have h := HPS.out _ HPp.out
            rw [← hpe, ByteArray.size_append] at h
            omega
          have HZ := Lib.hid (show (o2 ++ ((⟨#[42, 47]⟩ : ByteArray) ++ dq)).size ≤ 20 * (i + 1) by
            have h := HPS.out _ HPp.out
            rw [hpe, ByteArray.size_append]
            omega)
          rw [← hpe] at HPp
          rw [hdq] at HI
          clear hdq hpe
          go_wp2_with fail
          refine (HI.out _).mono ?_
          rintro e w7 ⟨rfl, rfl⟩
          go_wp2_with fail
          exact ⟨⟨i + 1, L ++ [(⟨#[42, 47]⟩ : ByteArray) ++ dq], o2 ++ ((⟨#[42, 47]⟩ : ByteArray) ++ dq), by go_num, rfl, by omega, HZ.out, Lib.hid (HL2.out _), Lib.hid (HE2.out _), Lib.hid (HP2.out _ HPp.out), HC6, Lib.hid (HB6.out.more (by omega)), HO6⟩, by simp [intOf]; omega⟩
        · go_wp2_with fail
          refine (HTk.out _ _ HC5.out HB5.out (by omega)).mono ?_
          rintro e w6 ⟨a, rfl, hta, hb6, ho6⟩
          have HC6 := Lib.hid (HC5.out.only ho6)
          have HB6 := Lib.hid hb6
          have HO6 := Lib.hid (HO5.out.trans ho6)
          have HTa := Lib.hid hta
          have hsa := tok_size hta h2 HN.out
          clear hb6 ho6 hta HC5 HB5 HO5
          go_wp2_with fail
          refine (HTk.out _ _ HC6.out HB6.out (by omega)).mono ?_
          rintro e w7 ⟨b', rfl, htb, hb7, ho7⟩
          have HC7 := Lib.hid (HC6.out.only ho7)
          have HB7 := Lib.hid hb7
          have HO7 := Lib.hid (HO6.out.trans ho7)
          have hsb := tok_size htb h2 HN.out
          have HPp := Lib.hid (show PartF lo hi NM (a ++ ⟨#[45]⟩ ++ b') from .inr (.inr (.inr (.inl ⟨a, b', HTa.out, htb, rfl⟩))))
          have HZ := Lib.hid (show (o2 ++ (a ++ (⟨#[45]⟩ : ByteArray) ++ b')).size ≤ 20 * (i + 1) by
            have h := HPS.out _ HPp.out
            rw [ByteArray.size_append]
            omega)
          clear hb7 ho7 htb HC6 HB6 HO6 HTa
          go_wp2_with fail
          exact ⟨⟨i + 1, L ++ [a ++ ⟨#[45]⟩ ++ b'], o2 ++ (a ++ ⟨#[45]⟩ ++ b'), by go_num, rfl, by omega, HZ.out, Lib.hid (HL2.out _), Lib.hid (HE2.out _), Lib.hid (HP2.out _ HPp.out), HC7, Lib.hid (HB7.out.more (by omega)), HO7⟩, by simp [intOf]; omega⟩
        · go_upto_region 17 with fail
          have HCd : Hid (CE w5.drew b bd gl gh gn lo hi A n c NM) := Lib.hid (HC5.out.only ((Only.refl b w5).drewN 1))
          have HBd : Hid (TB w5.drew b (k + 1 + 7 * i + 1)) := Lib.hid (HB5.out.keep ((Below.refl _ w5).drew))
          have HOd : Hid (Only b w w5.drew) := Lib.hid (HO5.out.trans ((Only.refl b w5).drewN 1))
          have HS := Lib.hid (show ∀ W, CE W b bd gl gh gn lo hi A n c NM → W.cell? ⟨bd, 0, none⟩ = some (.pointer (some ⟨b, 0, none⟩)) from fun W h => h.d)
          have HR5b := Lib.hid (fun W (hW : TB W b (k + 1 + 7 * i + 1 + 2 + 2)) => roll_t b (k + 1 + 7 * i + 1 + 2 + 2) 5 W hW (by omega) (by decide) (by decide))
          go_region_held3 (fun W => W.cell? ⟨bd, 0, none⟩ = some (.pointer (some ⟨b, 0, none⟩))) (first | (with_reducible exact HS.out _ HCd.out) | (with_reducible exact HS.out _ HC5.out) | (with_reducible exact HS.out _ HC6.out) | (with_reducible exact HS.out _ HC7.out) | (with_reducible exact HS.out _ HC8.out)) (first
            | (go_at_call 33; ((with_reducible refine (HTk.out _ _ HCd.out HBd.out (by omega)).mono ?_); rintro e w6 ⟨a, rfl, hta, hb6, ho6⟩; have HC6 := Lib.hid (HCd.out.only ho6); have HB6 := Lib.hid hb6; have HO6 := Lib.hid (HOd.out.trans ho6); have HTa := Lib.hid hta; have hsa := tok_size hta h2 HN.out; have fa1 : ¬ 9223372036854775807 < a.size + 1 := (by omega); clear hb6 ho6 hta))
            | (go_at_call 33; ((with_reducible refine (HTk.out _ _ HC6.out HB6.out (by omega)).mono ?_); rintro e w7 ⟨b', rfl, htb, hb7, ho7⟩; have HC7 := Lib.hid (HC6.out.only ho7); have HB7 := Lib.hid hb7; have HO7 := Lib.hid (HO6.out.trans ho7); have HTb := Lib.hid htb; have hsb := tok_size htb h2 HN.out; have fb1 : ¬ 9223372036854775807 < a.size + 1 + b'.size := (by omega); have fb2 : ¬ 9223372036854775807 < a.size + 1 + b'.size + 1 := (by omega); clear hb7 ho7 htb))
            | (go_at_call 34; refine (HR5b.out _ HB7.out).mono ?_; rintro e w8 ⟨q, rfl, hq, hb8, ho8⟩; have HC8 := Lib.hid (HC7.out.only ho8); have HB8 := Lib.hid hb8; have HO8 := Lib.hid (HO7.out.trans ho8); have e3 : IntKind.i64.wrap (1 + (q : Int)) = 1 + (q : Int) := IntWalk.i64_in _ (by omega); have hq5 : q < 5 := (by omega); obtain ⟨dq, hdq⟩ : ∃ dq, toB (Lib.decDigits (1 + q)) = dq := ⟨_, rfl⟩; have HI := Lib.hid (fun W => itoa_one q (by omega) W); rw [hdq] at HI; have hds : dq.size ≤ 2 := (by rw [← hdq, toB_size]; have := (dig_ok (n := 1 + q) (by omega)).2.1; omega); have HDQ := Lib.hid hdq; have fc1 : ¬ 9223372036854775807 < a.size + 1 + b'.size + 1 + dq.size := (by omega); have fc2 : ¬ 9223372036854775807 < o2.size + (a.size + 1 + b'.size + 1 + dq.size) := (by omega); clear hdq; clear hb8 ho8 hq)
            | (go_at_call 35; refine (HI.out _).mono ?_; rintro e w9 ⟨rfl, rfl⟩))
          all_goals
            clear e3 fa1 fb1 fb2 fc1
            have HPp := Lib.hid (show PartF lo hi NM (a ++ ⟨#[45]⟩ ++ b' ++ ⟨#[47]⟩ ++ dq) from .inr (.inr (.inr (.inr ⟨a, b', 1 + q, HTa.out, HTb.out, by omega, by omega, by rw [HDQ.out]⟩))))
            have HZ := Lib.hid (show (o2 ++ (a ++ (⟨#[45]⟩ : ByteArray) ++ b' ++ ⟨#[47]⟩ ++ dq)).size ≤ 20 * (i + 1) by
              have h := HPS.out _ HPp.out
              rw [ByteArray.size_append]
              omega)
            go_wp2_with fail
            clear fc2 HI HDQ HTa HTb HR5b
            have g1 : Value.int .i64 ((i : Int) + 1) = .int .i64 ((i + 1 : Nat) : Int) := by rw [Int.natCast_add]; rfl
            have g2 : i + 1 ≤ 1 + r := by omega
            have g3 := HB8.out.more (m := k + 1 + 7 * (i + 1)) (by omega)
            have g4 := HE2.out (a ++ ⟨#[45]⟩ ++ b' ++ ⟨#[47]⟩ ++ dq)
            have g5 := HP2.out _ HPp.out
            have g6 := HL2.out (a ++ ⟨#[45]⟩ ++ b' ++ ⟨#[47]⟩ ++ dq)
            refine ⟨⟨i + 1, L ++ [a ++ ⟨#[45]⟩ ++ b' ++ ⟨#[47]⟩ ++ dq], o2 ++ (a ++ ⟨#[45]⟩ ++ b' ++ ⟨#[47]⟩ ++ dq), ?_⟩, ?_⟩
            · refine ⟨g1, ?_⟩
              refine ⟨by with_reducible rfl, ?_⟩
              refine ⟨g2, ?_⟩
              refine ⟨by have := HZ.out; with_reducible assumption, ?_⟩
              refine ⟨by have := Lib.hid g6; with_reducible assumption, ?_⟩
              refine ⟨by have := Lib.hid g4; with_reducible assumption, ?_⟩
              refine ⟨by have := Lib.hid g5; with_reducible assumption, ?_⟩
              refine ⟨by with_reducible assumption, ?_⟩
              refine ⟨by have := Lib.hid g3; with_reducible assumption, ?_⟩
              with_reducible assumption
            · clear g1 g2 g3 g4 g5 g6 HPp HZ
              simp [intOf]
              omega
        · go_wp2_with fail
          refine (HTk.out _ _ HC5.out HB5.out (by omega)).mono ?_
          rintro e w6 ⟨a, rfl, hta, hb6, ho6⟩
          have HC6 := Lib.hid (HC5.out.only ho6)
          have HB6 := Lib.hid hb6
          have HO6 := Lib.hid (HO5.out.trans ho6)
          have hsa := tok_size hta h2 HN.out
          have HPp := Lib.hid (show PartF lo hi NM a from .inr (.inr (.inl hta)))
          have HZ := Lib.hid (show (o2 ++ a).size ≤ 20 * (i + 1) by
            rw [ByteArray.size_append]
            omega)
          clear hb6 ho6 hta HC5 HB5 HO5
          go_wp2_with fail
          exact ⟨⟨i + 1, L ++ [a], o2 ++ a, by go_num, rfl, by omega, HZ.out, Lib.hid (HL2.out _), Lib.hid (HE2.out _), Lib.hid (HP2.out _ HPp.out), HC6, Lib.hid (HB6.out.more (by omega)), HO6⟩, by simp [intOf]; omega⟩
    · have hie : i = 1 + r := by omega
      have HF := Lib.hid (show L ≠ [] ∧ L.length ≤ 3 from ⟨fun h => by have := HL.out; rw [h] at this; simp at this; omega, by have := HL.out; omega⟩)
      have HB2 := Lib.hid (HB.out.more (m := k + 30) (by omega))
      clear hie
      go_wp2_with fail
      rw [← HQ.out]
      exact ⟨L, by rw [HE.out]; rfl, HF.out.1, HF.out.2, HP.out, HB2.out, HO.out⟩

end Go.Proofs.YtlhaidibcocooaaGreatDoor
