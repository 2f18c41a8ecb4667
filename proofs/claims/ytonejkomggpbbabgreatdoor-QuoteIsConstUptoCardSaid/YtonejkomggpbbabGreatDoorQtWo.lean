/- QuoteIsConst: Word reads a text in quotes. -/
import Derived.Test.YtonejkomggpbbabGreatDoorQtCl
namespace Go.Proofs.YtonejkomggpbbabGreatDoor
open Go.RowKit Go.Shelf

/-- the boxes that Word makes -/
structure W3 (w : World) (h : Nat) (T : List UInt8) (W : World) : Prop where
  rd : Rd W h T T
  ptr : One W (h + 1) 50 (.pointer (some ⟨h, 0, none⟩))
  word : One W (h + 2) 26 (.slice none 0 0)
  below : Below w.heap.size w W
  size : W.heap.size = h + 3
def ord (T : List UInt8) : Obj := .cells #[.string (toB T), .int .i64 0, .bool false, .slice none 0 0, .int .i64 0, .bool false] 53
def orp (h : Nat) : Obj := .cells #[.pointer (some ⟨h, 0, none⟩)] 50
def oow : Obj := .cells #[.slice none 0 0] 26
def opr : Obj := .cells #[.int .i64 0, .int .i64 0] 55
def omt : Obj := .cells #[.int .i64 0, .int .i64 0] 62
theorem W3.start (w : World) (T : List UInt8) (hT : T.length ≤ 32768) : W3 w w.heap.size T (((w.alloc (ord T)).alloc (orp w.heap.size)).alloc oow) := by
  have h1 := heap_alloc_new w (ord T)
  have s1 : (w.alloc (ord T)).heap.size = w.heap.size + 1 := by simp
  have b1 := (Below.refl w.heap.size w).alloc (Nat.le_refl _) (ord T)
  have R1 : Rd (w.alloc (ord T)) w.heap.size T T := ⟨⟨0, 0, by simp, by decide, by decide, h1⟩, ⟨[], rfl⟩, hT⟩
  generalize w.alloc (ord T) = w1 at *
  have b2 := (Below.refl w1.heap.size w1).alloc (Nat.le_refl _) (orp w.heap.size)
  have h2 := heap_alloc_new w1 (orp w.heap.size)
  have s2 : (w1.alloc (orp w.heap.size)).heap.size = w.heap.size + 2 := by simp [s1]
  rw [s1] at h2
  have R2 := R1.keep b2
  generalize w1.alloc (orp w.heap.size) = w2 at *
  have b3 := (Below.refl w2.heap.size w2).alloc (Nat.le_refl _) oow
  have h3 := heap_alloc_new w2 oow
  have s3 : (w2.alloc oow).heap.size = w.heap.size + 3 := by simp [s2]
  rw [s2] at h3
  exact ⟨R2.keep b3, (b3.block _ (by omega)).trans h2, h3, (b1.trans (b2.mono b1.size)).trans (b3.mono (Nat.le_trans b1.size b2.size)), s3⟩
theorem chk_ok {T : List UInt8} (h1 : T.length ≤ 16384) (h0 : ¬ 0 ≤ Lib.indexByte T 0) : chkO T = 0 := by
  unfold chkO
  rw [if_neg (by omega), if_neg h0]
set_option maxRecDepth 100000 in
set_option maxHeartbeats 6400000 in
theorem wWord_any (T s : List UInt8) (w : World) (hq : QR T s) (hne : T ≠ []) (hT : T.length ≤ 16384) (h0 : ¬ 0 ≤ Lib.indexByte T 0) :
    Calls Tryz.prog 8 #[.string (toB T)] w fun e w' => ∃ v L, e = .returned (.tuple #[v, .int .i64 0, .int .i64 0]) ∧ kindQ L ∧ catQ L = s ∧ L.length ≤ 16384 ∧ w'.ownsRow w.heap.size 68 6 v L.length (rowQ L) ∧ Below w.heap.size w w' := by
  have HTF := Lib.hid (checkText_any T (by omega) w)
  rw [chk_ok hT h0] at HTF
  have hmf : ∀ (fn : Fn) (first cap : Array Value) (w : World), (Instr.makeFunc fn first cap).run Tryz.prog w = .ok (.func fn first cap) w := fun _ _ _ _ => rfl
  have HS := Lib.hid (W3.start w T (by omega))
  have HQR := Lib.hid hq
  clear hq h0
  go_enter Tryz.func8, Tryz.ntmps8
  go_wp2_with fail
  refine HTF.out.mono ?_
  rintro e w' ⟨rfl, rfl⟩
  go_upto_region 6 with fail
  change Code.wp _ _ _ _ (((w'.alloc (ord T)).alloc (orp w'.heap.size)).alloc oow)
  generalize ((w'.alloc (ord T)).alloc (orp w'.heap.size)).alloc oow = w3 at *
  obtain ⟨x, hx⟩ : ∃ x, w'.heap.size = x := ⟨_, rfl⟩
  rw [hx] at HS
  simp only [hx]
  have hs3 := HS.out.size
  have b4 := (Below.refl w3.heap.size w3).alloc (Nat.le_refl _) opr
  have s4 : (w3.alloc opr).heap.size = x + 4 := by simp [hs3]
  have hp4 := heap_alloc_new w3 opr
  have hcl := wclosure_any x (x + 1) (x + 2) T s (w3.alloc opr) (HS.out.rd.keep b4) HQR.out hne ((World.cell?_of_block (a := ⟨x + 1, 0, none⟩) (b4.block (x + 1) (by omega))).trans HS.out.ptr.cell) (by omega) (by omega) (by omega) ((b4.block (x + 2) (by omega)).trans HS.out.word) (by omega)
  have HCg := Lib.hid (wcaught_any #[.pointer (some ⟨x + 1, 0, none⟩), .pointer (some ⟨x + 2, 0, none⟩)] (WC x (x + 2) T s (w3.alloc opr)) w3 hcl (fun w2 h2 => (h2.fr.block _ (by omega) (by omega) (by omega)).trans hp4))
  have HB4 := Lib.hid (HS.out.below.trans (b4.mono HS.out.below.size))
  clear hcl b4 hp4
  go_wp2_with fail
  refine HCg.out.mono ?_
  rintro e w5 ⟨rfl, w2, ⟨⟨v, L, hk, hcat, hn, hown, hy⟩, hfr⟩, ho5⟩
  obtain ⟨A, cp, rfl⟩ := own_form hown
  have hs2 := hfr.size
  rw [s4] at hs2
  have HOw := Lib.hid (own_only hown ho5 (show w3.heap.size < (w3.alloc opr).heap.size by omega))
  have HY5 := Lib.hid (hy.only ho5 (by omega))
  have HW5 := Lib.hid (And.intro hk (And.intro hcat hn))
  have hB5 : Below x w' w5 := ⟨ho5.os.trans (hfr.os.trans HB4.out.os), ho5.tape.trans (hfr.tape.trans HB4.out.tape), ho5.output.trans (hfr.output.trans HB4.out.output), Nat.le_trans HB4.out.size (Nat.le_trans hfr.size ho5.size), fun k hk => (ho5.block k (by omega) (by omega)).trans ((hfr.block k (by omega) (by omega) (by omega)).trans (HB4.out.block k (by omega)))⟩
  have hs5 := ho5.size
  have b6 := (Below.refl w5.heap.size w5).alloc (Nat.le_refl _) opr
  have HO6 := Lib.hid (HOw.out.alloc opr)
  have HY6 := Lib.hid (show One (w5.alloc opr) (x + 2) 26 (.slice A L.length cp) from (b6.block _ HY5.out.lt).trans HY5.out)
  have HP6 := Lib.hid (Prb.new w5 0 0)
  have HB6 := Lib.hid (hB5.trans (b6.mono (by omega)))
  have s6 : (w5.alloc opr).heap.size = w5.heap.size + 1 := by simp
  clear hk hcat hn hown hy hfr ho5 hB5 b6 HCg HOw HY5 HB4 s4
  go_upto_region 7 with fail
  change Code.wp _ _ _ _ (w5.alloc opr)
  change Hid (Prb (w5.alloc opr) _ _ _) at HP6
  generalize w5.alloc opr = w6 at *
  obtain ⟨p, hp⟩ : ∃ p, w5.heap.size = p := ⟨_, rfl⟩
  rw [hp] at HP6 s6
  simp only [hp]
  obtain ⟨k0, k1, kf⟩ := HP6.out.cells
  have b7 := (Below.refl w6.heap.size w6).alloc (Nat.le_refl _) omt
  have HM7 := Lib.hid (show Mt (w6.alloc omt) (p + 1) 0 from s6 ▸ heap_alloc_new w6 omt)
  have HO7 := Lib.hid (HO6.out.alloc omt)
  have HY7 := Lib.hid (show One (w6.alloc omt) (x + 2) 26 (.slice A L.length cp) from (b7.block _ HY6.out.lt).trans HY6.out)
  have HB7 := Lib.hid (HB6.out.trans (b7.mono (by omega)))
  have hnb : ∀ q, (Value.slice A L.length cp).ownBlock = some q → q < p + 1 := fun q hq => by
    have := (HO6.out.lt q hq).2
    omega
  clear b7
  go_upto_region 10 with fail
  change Code.wp _ _ _ _ (w6.alloc omt)
  generalize w6.alloc omt = w7 at *
  have HMe := Lib.hid (mword_any (p + 1) 0 _ _ L w7 HM7.out (by have := HW5.out.2.2; omega) HO7.out (fun e => by have := hnb _ e; omega))
  have cy := HY7.out.cell
  go_wp2_with fail
  refine HMe.out.mono ?_
  rintro e w8 ⟨rfl, ⟨n8, hm8⟩, ho8⟩
  have HO8 := Lib.hid (own_not HO7.out ho8 (fun e => by have := hnb _ e; omega))
  have HY8 := Lib.hid (HY7.out.only ho8 (by omega))
  have HB8 := Lib.hid (show Below x w' w8 from ⟨ho8.os.trans HB7.out.os, ho8.tape.trans HB7.out.tape, ho8.output.trans HB7.out.output, Nat.le_trans HB7.out.size ho8.size, fun k hk => (ho8.block k (Nat.lt_of_lt_of_le hk (by have := HB7.out.size; omega)) (by omega)).trans (HB7.out.block k hk)⟩)
  have m0 := hm8.cell0
  have cy8 := HY8.out.cell
  clear hm8 ho8 cy k0 k1 kf
  go_wp2_with fail
  refine bodyPost_ret (v := .tuple #[.slice A L.length cp, .int .i64 0, .int .i64 0]) (by simp [results, Tryz.results8, go_sem]) rfl ?_
  refine ⟨.slice A L.length cp, L, rfl, HW5.out.1, HW5.out.2.1, ?_, own_lower HO8.out ?_, by rw [hx]; exact HB8.out⟩
  · have := HW5.out.2.2
    omega
  · have : w3.heap.size ≤ (w3.alloc opr).heap.size := by simp
    omega
end Go.Proofs.YtonejkomggpbbabGreatDoor
