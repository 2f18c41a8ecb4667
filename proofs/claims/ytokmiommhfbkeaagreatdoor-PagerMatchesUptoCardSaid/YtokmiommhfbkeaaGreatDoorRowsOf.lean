/- build.Rows: the rows of a text, and the numbers of their lines, for every text below 4 GiB and every width. -/
import Derived.Test.YtokmiommhfbkeaaGreatDoorRowLine
import Derived.Test.YtokmiommhfbkeaaGreatDoorLines
import Derived.Test.YtokmiommhfbkeaaGreatDoorViewA
namespace Go.Proofs.YtokmiommhfbkeaaGreatDoor
open Go.RowKit

/-- the rows behind the first k lines -/
def rowsK (wide : Int) (ls : List ByteArray) : Nat → St
  | 0 => ([], [], [])
  | k + 1 => lineR wide k (ls.getD k ⟨#[]⟩).data.toList (rowsK wide ls k)
def rowsE (s : ByteArray) (wide : Int) : Int := if largeB s then 2 else if withinB wide 2 200 then 0 else 3
def rowsL (s : ByteArray) (wide : Int) : St := if rowsE s wide = 0 then rowsK wide (linesL s) (linesL s).length else ([], [], [])

theorem getD_at {ls : List ByteArray} {k : Nat} (h : k < ls.length) : ls.getD k ⟨#[]⟩ = ls[k] := by
  simp [List.getD, h]
theorem Fits.lineR {wide n : Int} (hw : 2 ≤ wide) {l : List UInt8} {a : Nat} {x : St} (h : Fits wide a x) : Fits wide (a + 8 * l.length + 1) (lineR wide n l x) := by
  obtain ⟨h1, h2, _⟩ := (Fits.line (n := n) hw l a (x, 0) h).1
  exact ⟨by simp [Go.Proofs.YtokmiommhfbkeaaGreatDoor.lineR, closeR, lineF]; exact h1, by simp [Go.Proofs.YtokmiommhfbkeaaGreatDoor.lineR, closeR, lineF]; exact h2, by simp [Go.Proofs.YtokmiommhfbkeaaGreatDoor.lineR, closeR]; omega⟩
theorem Fits.rowsK {wide : Int} (hw : 2 ≤ wide) {ls : List ByteArray} {m : Nat} (hm : ∀ p ∈ ls, p.size ≤ m) : ∀ k, k ≤ ls.length → Fits wide (k * (8 * m + 1)) (rowsK wide ls k)
  | 0, _ => ⟨Nat.zero_le _, Nat.zero_le _, by show (0 : Int) ≤ wide; omega⟩
  | k + 1, hk => by
    have h := (Fits.rowsK hw hm k (by omega)).lineR (n := k) hw (l := (ls.getD k ⟨#[]⟩).data.toList)
    have hp : (ls.getD k ⟨#[]⟩).data.toList.length ≤ m := by
      rw [size_toList]
      rw [getD_at (show k < ls.length by omega)]
      exact hm _ (List.getElem_mem _)
    refine Fits.mono h ?_
    rw [Nat.add_mul]
    have : 8 * (ls.getD k ⟨#[]⟩).data.toList.length ≤ 8 * m := Nat.mul_le_mul_left _ hp
    omega

theorem RW.mono {w : World} {B B' b : Nat} {wide : Int} {x : St} (h : RW w B' b wide x) (hB : B ≤ B') : RW w B b wide x := by
  obtain ⟨h1, v1, v2, hk, o1, o2⟩ := h
  refine ⟨Nat.le_trans hB h1, v1, v2, hk, ⟨o1.1, o1.2.imp id fun ⟨g, c, cur, e, hg, r⟩ => ⟨g, c, cur, e, Nat.le_trans hB hg, r⟩⟩, ⟨o2.1, o2.2.imp id fun ⟨g, c, cur, e, hg, r⟩ => ⟨g, c, cur, e, Nat.le_trans hB hg, r⟩⟩⟩
theorem rw_new (w : World) (wide : Int) : RW (w.alloc (.cells #[.int .i64 wide, .slice none 0 0, .slice none 0 0, .string ⟨#[]⟩] 71)) w.heap.size w.heap.size wide ([], [], []) :=
  ⟨Nat.le_refl _, _, _, heap_alloc_new w _, World.ownsRow_nil _ _ _ _, World.ownsRow_nil _ _ _ _⟩

/-- what rowsOf hands back -/
def RowsP (w : World) (wide : Int) (x : St) (n : Int) (e : Ending) (w' : World) : Prop :=
  Below w.heap.size w w' ∧ ((n ≠ 0 ∧ e = .returned (.tuple #[.pointer none, .int .i64 n])) ∨ (n = 0 ∧ ∃ b, e = .returned (.tuple #[.pointer (some ⟨b, 0, none⟩), .int .i64 n]) ∧ RW w' w.heap.size b wide x))

set_option maxRecDepth 100000 in
set_option maxHeartbeats 3200000 in
theorem rowsOf_any (s : ByteArray) (wide : Int) (w : World) (hx : MX w) (hd : Deb w) (hs : s.size < 4294967281) :
    Calls Tryz.prog 67 #[.string s, .int .i64 wide] w (RowsP w wide (rowsL s wide) (rowsE s wide)) := by
  have hL := Lib.hid (textLines_any s w hx hs)
  cases hl : largeB s
  · have hE0 : sizedE s = 0 := by simp [sizedE, hl]
    rw [hl, hE0] at hL
    by_cases hw : withinB wide 2 200 = true
    · have hE : rowsE s wide = 0 := by simp [rowsE, hl, hw]
      have hR : rowsL s wide = rowsK wide (linesL s) (linesL s).length := by unfold rowsL; rw [if_pos hE]
      rw [hE, hR]
      clear hE hR
      have hw2 : 2 ≤ wide ∧ wide ≤ 200 := by simpa [withinB] using hw
      have hlar : s.size ≤ 65536 ∧ (linesL s).length ≤ 4096 := by simpa [largeB] using hl
      have hF := fun k hk => Fits.rowsK hw2.1 (lines_size s) k hk
      have hsz := lines_size s
      simp only [Bool.false_eq_true, if_false] at hL
      generalize linesL s = l at *
      go_enter Tryz.func67, Tryz.ntmps67
      go_wp2_with fail
      refine hL.out.mono ?_
      rintro e w1 ⟨v, rfl, hv, hb⟩
      obtain ⟨A, c, rfl, hc, hcell⟩ := hv
      clear hL
      go_wp2_with (go_at_call 53; refine (within_any _ _ _ _).mono ?_; rintro e w' ⟨rfl, rfl⟩)
      have hdw : 7 < w1.heap.size := Nat.lt_of_lt_of_le (World.block_lt_of_cell? w _ hd) hb.size
      have hd1 := hd.keep hb
      have HC := Lib.hid hcell
      clear hcell hd
      go_loopw [27] (fun i wr => ∃ k : Nat, k ≤ l.length ∧ i = .int .i64 k ∧ Below w1.heap.size w1 wr ∧ RW wr w1.heap.size w1.heap.size wide (rowsK wide l k)) (fun i _ => l.length - (intOf i).toNat)
      case atStart => exact ⟨0, Nat.zero_le _, rfl, (Below.refl _ w1).alloc (Nat.le_refl _) _, rw_new w1 wide⟩
      case round =>
        obtain ⟨k, hk, rfl, hbw, hrw⟩ := hrel
        by_cases hlt : k < l.length
        · obtain ⟨b, off, rfl, hbl, hcell⟩ := HC.out (by omega)
          have hck : wr.cell? ⟨b, off + k, none⟩ = some (.string l[k]) := (hbw.cell (p := ⟨b, off + k, none⟩) hbl).trans (hcell k hlt)
          have hsk : l[k].size ≤ 65536 := Nat.le_trans (hsz _ (List.getElem_mem _)) hlar.1
          have hkm : k * (8 * s.size + 1) ≤ 4096 * (8 * 65536 + 1) := Nat.mul_le_mul (by omega) (by omega)
          have hN := Lib.hid (line_any wr w1.heap.size w1.heap.size wide k (rowsK wide l k) l[k] (k * (8 * s.size + 1)) hrw (hd1.keepB hdw hbw) hdw hbw.size hw2.1 hw2.2 (hF k hk) (by omega))
          have hst := Lib.hid (show rowsK wide l (k + 1) = lineR wide k l[k].data.toList (rowsK wide l k) by rw [← getD_at hlt]; rfl)
          clear hrw hcell hF hsz hkm
          go_wp2_with fail
          refine hN.out.mono ?_
          rintro e w2 ⟨rfl, hb2, hr2⟩
          have HR2 := Lib.hid hr2
          clear hr2 hN
          go_wp2_with fail
          go_roundw
          case rel => exact ⟨k + 1, by omega, by go_num, hbw.trans hb2, by rw [hst.out]; exact HR2.out⟩
          case measure => simp [intOf]; omega
        · obtain rfl : k = l.length := by omega
          have HR := Lib.hid hrw
          clear hrw hF hsz
          go_wp2
          go_ret2
          exact ⟨hb.trans (hbw.mono hb.size), .inr ⟨rfl, _, rfl, HR.out.mono hb.size⟩⟩
    · have hw' : withinB wide 2 200 = false := by simpa using hw
      have hE : rowsE s wide = 3 := by simp [rowsE, hl, hw']
      rw [hE]
      simp only [Bool.false_eq_true, if_false] at hL
      generalize linesL s = l at *
      go_enter Tryz.func67, Tryz.ntmps67
      go_wp2_with fail
      refine hL.out.mono ?_
      rintro e w1 ⟨v, rfl, hv, hb⟩
      clear hv hL
      go_wp2_with (go_at_call 53; refine (within_any _ _ _ _).mono ?_; rintro e w' ⟨rfl, rfl⟩)
      go_ret2
      exact ⟨hb, .inl ⟨by decide, rfl⟩⟩
  · have hE0 : sizedE s = 2 := by simp [sizedE, hl]
    have hE : rowsE s wide = 2 := by simp [rowsE, hl]
    rw [hl, hE0] at hL
    rw [hE]
    go_enter Tryz.func67, Tryz.ntmps67
    go_wp2_with fail
    refine hL.out.mono ?_
    rintro e w1 ⟨v, rfl, hv, hb⟩
    clear hv hL
    go_wp2
    go_ret2
    exact ⟨hb, .inl ⟨by decide, rfl⟩⟩

end Go.Proofs.YtokmiommhfbkeaaGreatDoor
