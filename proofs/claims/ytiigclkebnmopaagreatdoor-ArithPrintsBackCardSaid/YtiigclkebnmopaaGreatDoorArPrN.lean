/- Arithmetic expressions: the closure of PrintArith. -/
import Derived.Test.YtiigclkebnmopaaGreatDoorArArith
namespace Go.Proofs.YtiigclkebnmopaaGreatDoor
open Go.RowKit Go.Shelf

/-- what PrintArith reads: an expression -/
def allP (T : List UInt8) : Out := parse (40 * T.length + 40) .expr T
/-- what the closure gives: the expression stored in its box, or a panic -/
def CP (b y : Nat) (T : List UInt8) (o : Out) (w : World) (e : Ending) (w' : World) : Prop := match o with
  | .ok x l => ∃ v0 v1 v2 v3, e = .returned (.tuple #[]) ∧ Four w' y v0 v1 v2 v3 ∧ ExV (Nw w) w' (.agg #[v0, v1, v2, v3]) x ∧ Rd w' b T l ∧ ∃ wm, Only b w wm ∧ ∃ wn, Only y wm wn ∧ Only b wn w'
  | .stuck l1 => e = pan (plc T l1) 1 ∧ ∃ wm, Only b w wm ∧ ∃ wn, Only y wm wn ∧ Only b wn w'
  | .bad l1 => e = pan (plc T l1) 1 ∧ ∃ wm, Only b w wm ∧ ∃ wn, Only y wm wn ∧ Only b wn w'
  | .more => e = pan T.length 27 ∧ ∃ wm, Only b w wm ∧ ∃ wn, Only y wm wn ∧ Only b wn w'
  | .none => False
theorem PG.toCP {b y : Nat} {T : List UInt8} {o : Out} {w w' : World} {e : Ending} (hno : ∀ x l, o ≠ .ok x l) (h : PG b T o w e w') : CP b y T o w e w' := by
  cases o with
  | ok x l => exact absurd rfl (hno x l)
  | none => exact h.elim
  | stuck l => exact ⟨h.1, w', h.2, w', Only.refl _ _, Only.refl _ _⟩
  | bad l => exact ⟨h.1, w', h.2, w', Only.refl _ _, Only.refl _ _⟩
  | more => exact ⟨h.1, w', h.2, w', Only.refl _ _, Only.refl _ _⟩

set_option maxRecDepth 100000 in
set_option maxHeartbeats 1600000 in
theorem close_none (b : Nat) (T l : List UInt8) (w : World) (h : Rd w b T l) :
    Calls Tryz.prog 45 #[.pointer (some ⟨b, 0, none⟩), .string ⟨#[]⟩] w fun e w' => e = .returned (.tuple #[]) ∧ w' = w := by
  obtain ⟨p, lf, hp, hlf1, hlf2, hd, k0, k1, k2, k4, kf, hbx⟩ := h.cells
  clear hbx hd hlf1 hlf2 hp h
  go_enter Tryz.func45, Tryz.ntmps45
  go_wp2_with fail
  go_loop [13] (fun s13 => s13 = .int .i64 0) (fun _ => 0)
  case atStart => exact rfl
  case round =>
    obtain rfl := hrel
    go_wp2_with fail
    go_end0
    exact ⟨rfl, rfl⟩

set_option maxRecDepth 100000 in
set_option maxHeartbeats 6400000 in
theorem pclosure_any (b b6 y : Nat) (T : List UInt8) (w : World) (h : Rd w b T T) (hm : MX b w) (h6 : w.cell? ⟨b6, 0, none⟩ = some (.pointer (some ⟨b, 0, none⟩))) (h6l : b6 < w.heap.size) (h6b : b6 ≠ b) (h6y : b6 ≠ y) (hy : Four w y (.string ⟨#[]⟩) (.int .i64 0) (.string ⟨#[]⟩) (.slice none 0 0)) (hyb : y ≠ b) (hn : parse (40 * T.length + 40) .expr T ≠ .none) :
    Calls Tryz.prog 44 #[.pointer (some ⟨b6, 0, none⟩), .pointer (some ⟨y, 0, none⟩)] w (CP b y T (allP T) w) := by
  have HE := Lib.hid ((reads_any b T _).expr T w h hm hn)
  have HY := Lib.hid hy
  have HH := Lib.hid h
  obtain ⟨o, ho⟩ : ∃ o, allP T = o := ⟨_, rfl⟩
  rw [show parse (40 * T.length + 40) .expr T = o from ho] at HE
  obtain ⟨Q, hQ⟩ : ∃ Q, CP b y T o w = Q := ⟨_, rfl⟩
  rw [ho, hQ]
  have HQ := Lib.hid hQ
  have H6 := Lib.hid h6
  clear hQ ho hn h hm hy
  go_enter Tryz.func44, Tryz.ntmps44
  go_wp2_with fail
  refine HE.out.mono ?_
  intro e w2 hp
  clear h6
  rcases out_cases o with ⟨x, l1, rfl⟩ | hno
  · obtain ⟨v, rfl, hx, hr2, ho2⟩ := hp
    obtain ⟨n, A, k, c, nm, rfl, hnm⟩ := hx.form
    have HY2 := Lib.hid (HY.out.only ho2 hyb)
    have h62 := (World.cell?_of_block (a := ⟨b6, 0, none⟩) (ho2.block b6 h6l h6b)).trans H6.out
    have HR2 := Lib.hid hr2
    have HO2 := Lib.hid ho2
    have HX2 := Lib.hid hx
    clear hx hr2 ho2 hnm
    obtain ⟨d0, d1, d2, d3, df⟩ := HY2.out.cells
    go_upto_region 1 with fail
    change Code.wp _ _ _ _ (set4 w2 y _ _ _ _)
    have O3 := Only.set4 w2 y (.string (toB x.op)) (.int .i64 (n : Int)) (.string (toB nm)) (.slice A k c)
    have HY3 := Lib.hid (HY2.out.set (.string (toB x.op)) (.int .i64 (n : Int)) (.string (toB nm)) (.slice A k c))
    have HR3 := Lib.hid (HR2.out.only O3 (by omega))
    have HX3 := Lib.hid (HX2.out.only O3 (fun hh => by have h1 := HY.out.lt; have h2 : w.heap.size ≤ y := hh; omega))
    have h63 := (World.cell?_of_block (a := ⟨b6, 0, none⟩) (O3.block b6 (Nat.lt_of_lt_of_le h6l HO2.out.size) h6y)).trans h62
    have HO3 := Lib.hid O3
    have hl3 : b6 < (set4 w2 y (.string (toB x.op)) (.int .i64 (n : Int)) (.string (toB nm)) (.slice A k c)).heap.size := Nat.lt_of_lt_of_le (Nat.lt_of_lt_of_le h6l HO2.out.size) O3.size
    clear O3 d0 d1 d2 d3 df h62 HX2 HR2 HY2
    generalize set4 w2 y (.string (toB x.op)) (.int .i64 (n : Int)) (.string (toB nm)) (.slice A k c) = w3 at *
    go_wp2_with fail
    refine (close_none b T l1 w3 HR3.out).mono ?_
    rintro e w4 ⟨rfl, rfl⟩
    go_wp2_with fail
    go_end0
    rw [← HQ.out]
    exact ⟨_, _, _, _, rfl, HY3.out, HX3.out, HR3.out, w2, HO2.out, _, HO3.out, Only.refl _ _⟩
  · obtain ⟨p, c, rfl, ho3, HF⟩ := PG.fail hno hp
    have HFF := Lib.hid (PG.toCP (y := y) hno hp)
    unfold pan at HFF
    clear hp hno ho3 HF
    unfold pan
    go_wp2_with fail
    rw [← HQ.out]
    exact ⟨rfl, HFF.out⟩

set_option maxRecDepth 100000 in
set_option maxHeartbeats 3200000 in
theorem pcaught_any (cap : Array Value) (R : Ending → World → Prop) (w : World) (HC : Calls Tryz.prog 44 cap (w.alloc (.cells #[.int .i64 0, .int .i64 0] 54)) R)
    (HR : ∀ e w2, R e w2 → (e = .returned (.tuple #[]) ∨ ∃ a c, e = pan0 a c) ∧ Prb w2 w.heap.size 0 0) :
    Calls Tryz.prog 18 #[.func (.func 44) #[] cap] w fun e w' => ∃ e1 w2, R e1 w2 ∧ ((e1 = .returned (.tuple #[]) ∧ e = .returned (.agg #[.int .i64 0, .int .i64 0])) ∨ ∃ a c, e1 = pan0 a c ∧ e = .returned (.agg #[.int .i64 a, .int .i64 c])) ∧ Only w.heap.size w2 w' := by
  have hmf : ∀ (fn : Fn) (first cap : Array Value) (w : World), (Instr.makeFunc fn first cap).run Tryz.prog w = .ok (.func fn first cap) w := fun _ _ _ _ => rfl
  go_enter_defers Tryz.func18, Tryz.ntmps18
  go_wp2_with fail
  refine HC.mono ?_
  intro e w2 hr
  obtain ⟨he, hp⟩ := HR e w2 hr
  obtain ⟨d0, d1, df⟩ := hp.cells
  rcases he with rfl | ⟨a, c, rfl⟩
  · go_wp2_with fail
    have HZ := Lib.hid (hp.set 0 0)
    have HO : Only w.heap.size w2 ((w2.setCell ⟨w.heap.size, 0, none⟩ (.int .i64 0)).setCell ⟨w.heap.size, 1, none⟩ (.int .i64 0)) := ((Only.refl _ w2).setCell _).setCell _
    have HOO := Lib.hid HO
    clear HO
    generalize (w2.setCell ⟨w.heap.size, 0, none⟩ (.int .i64 0)).setCell ⟨w.heap.size, 1, none⟩ (.int .i64 0) = wz at *
    refine leaves_cons (f := 52) (args := #[.pointer (some ⟨w.heap.size, 0, none⟩)]) (by simp) (by simp [go_sem]) ?_
    refine (catch_idle w.heap.size _).mono ?_
    rintro e u' w'' ⟨rfl, rfl, rfl⟩
    obtain ⟨q0, q1, qf⟩ := HZ.out.cells
    simp [Leaves, settle, results, Tryz.results18, go_sem, q0, q1]
    exact ⟨_, _, hr, .inl rfl, HOO.out⟩
  · unfold pan0
    go_wp2_with fail
    refine leaves_cons (f := 52) (args := #[.pointer (some ⟨w.heap.size, 0, none⟩)]) (by simp) (by simp [go_sem]) ?_
    refine (catch_panicking w.heap.size 0 0 a c [] _ hp).mono ?_
    rintro e u' w'' ⟨rfl, rfl, rfl⟩
    have HZ := Lib.hid (hp.set a c)
    have HO : Only w.heap.size w2 ((w2.setCell ⟨w.heap.size, 0, none⟩ (.int .i64 a)).setCell ⟨w.heap.size, 1, none⟩ (.int .i64 c)) := ((Only.refl _ w2).setCell _).setCell _
    have HOO := Lib.hid HO
    clear HO
    generalize (w2.setCell ⟨w.heap.size, 0, none⟩ (.int .i64 a)).setCell ⟨w.heap.size, 1, none⟩ (.int .i64 c) = wz at *
    obtain ⟨q0, q1, qf⟩ := HZ.out.cells
    simp [Leaves, settle, results, Tryz.results18, go_sem, q0, q1]
    exact ⟨_, _, hr, .inr rfl, HOO.out⟩


/-- behind caught -/
def WPG (b y : Nat) (T : List UInt8) (o : Out) (w : World) (e : Ending) (w' : World) : Prop := match o with
  | .ok x l => ∃ v0 v1 v2 v3, e = .returned (.agg #[.int .i64 0, .int .i64 0]) ∧ Four w' y v0 v1 v2 v3 ∧ ExV (fun g => w.heap.size ≤ g) w' (.agg #[v0, v1, v2, v3]) x ∧ Rd w' b T l ∧ Only2 b y w w'
  | .bad l1 => e = .returned (.agg #[.int .i64 (plc T l1), .int .i64 1]) ∧ Only2 b y w w'
  | .stuck l1 => e = .returned (.agg #[.int .i64 (plc T l1), .int .i64 1]) ∧ Only2 b y w w'
  | .more => e = .returned (.agg #[.int .i64 (T.length : Int), .int .i64 27]) ∧ Only2 b y w w'
  | .none => False
theorem pcaught (b b6 y : Nat) (T : List UInt8) (w : World) (h : Rd w b T T) (hm : MX b w) (h6 : w.cell? ⟨b6, 0, none⟩ = some (.pointer (some ⟨b, 0, none⟩))) (h6l : b6 < w.heap.size) (h6b : b6 ≠ b) (h6y : b6 ≠ y) (hy : Four w y (.string ⟨#[]⟩) (.int .i64 0) (.string ⟨#[]⟩) (.slice none 0 0)) (hyb : y ≠ b) :
    Calls Tryz.prog 18 #[.func (.func 44) #[] #[.pointer (some ⟨b6, 0, none⟩), .pointer (some ⟨y, 0, none⟩)]] w (WPG b y T (allP T) w) := by
  have ba := (Below.refl w.heap.size w).alloc (Nat.le_refl _) (.cells #[.int .i64 0, .int .i64 0] 54)
  have hP := Prb.new w 0 0
  have hsA : (w.alloc (.cells #[.int .i64 0, .int .i64 0] 54)).heap.size = w.heap.size + 1 := by simp
  generalize hwA : w.alloc (.cells #[.int .i64 0, .int .i64 0] 54) = wA at *
  have hyl := hy.lt
  have hbl := h.lt
  have hOA : Only b w wA := Only.of ba (Nat.le_refl _)
  have hC := pclosure_any b b6 y T wA (h.keep ba) (hm.only hOA) ((World.cell?_of_block (a := ⟨b6, 0, none⟩) (ba.block b6 h6l)).trans h6) (Nat.lt_of_lt_of_le h6l ba.size) h6b h6y (hy.keep ba) hyb (parse_all T)
  have h2 : Only2 b y w wA := Only2.below ba
  have hG : ∀ w2, Only2 b y wA w2 → Prb w2 w.heap.size 0 0 := fun w2 k => (k.block _ (by omega) (by omega) (by omega)).trans hP
  refine (pcaught_any _ (CP b y T (allP T) wA) w (hwA ▸ hC) ?_).mono ?_
  · intro e w2 k
    cases ho : allP T with
    | ok x l => rw [ho] at k; obtain ⟨_, _, _, _, rfl, _, _, _, k2⟩ := k; exact ⟨.inl rfl, hG w2 (Only2.three k2)⟩
    | bad l => rw [ho] at k; exact ⟨.inr ⟨_, _, k.1⟩, hG w2 (Only2.three k.2)⟩
    | stuck l => rw [ho] at k; exact ⟨.inr ⟨_, _, k.1⟩, hG w2 (Only2.three k.2)⟩
    | more => rw [ho] at k; exact ⟨.inr ⟨_, _, k.1⟩, hG w2 (Only2.three k.2)⟩
    | none => rw [ho] at k; exact k.elim
  · rintro e w' ⟨e1, w2, k, hcase, ho2⟩
    cases ho : allP T with
    | ok x l =>
      rw [ho] at k
      obtain ⟨v0, v1, v2, v3, rfl, hf, hxv, hrd, k2⟩ := k
      have k3 := Only2.three k2
      rcases hcase with ⟨_, rfl⟩ | ⟨a, c, he, _⟩
      · refine ⟨v0, v1, v2, v3, rfl, hf.only ho2 (by omega), ?_, hrd.only ho2 (by omega), (h2.trans k3).new ho2 (Nat.le_refl _)⟩
        refine (hxv.only ho2 (fun hg => ?_)).mono (fun g hg _ => ?_)
        · have hgA : wA.heap.size ≤ w.heap.size := hg
          omega
        · have hgA : wA.heap.size ≤ g := hg
          show w.heap.size ≤ g
          omega
      · cases he
    | bad l =>
      rw [ho] at k
      obtain ⟨he, k2⟩ := k
      rcases hcase with ⟨he', _⟩ | ⟨a, c, he', rfl⟩
      · rw [he] at he'; cases he'
      · rw [he] at he'
        obtain ⟨rfl, rfl⟩ := pan_inj he'
        exact ⟨rfl, (h2.trans (Only2.three k2)).new ho2 (Nat.le_refl _)⟩
    | stuck l =>
      rw [ho] at k
      obtain ⟨he, k2⟩ := k
      rcases hcase with ⟨he', _⟩ | ⟨a, c, he', rfl⟩
      · rw [he] at he'; cases he'
      · rw [he] at he'
        obtain ⟨rfl, rfl⟩ := pan_inj he'
        exact ⟨rfl, (h2.trans (Only2.three k2)).new ho2 (Nat.le_refl _)⟩
    | more =>
      rw [ho] at k
      obtain ⟨he, k2⟩ := k
      rcases hcase with ⟨he', _⟩ | ⟨a, c, he', rfl⟩
      · rw [he] at he'; cases he'
      · rw [he] at he'
        obtain ⟨rfl, rfl⟩ := pan_inj he'
        exact ⟨rfl, (h2.trans (Only2.three k2)).new ho2 (Nat.le_refl _)⟩
    | none => rw [ho] at k; exact k.elim


end Go.Proofs.YtiigclkebnmopaaGreatDoor
