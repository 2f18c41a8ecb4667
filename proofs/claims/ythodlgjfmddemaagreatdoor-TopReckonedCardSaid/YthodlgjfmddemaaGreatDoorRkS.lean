/- strings.Builder: WriteString; the division and the powers of ten put together. -/
import Derived.Test.YthodlgjfmddemaaGreatDoorRkG
import Derived.Test.YthodlgjfmddemaaGreatDoorShelf
import Derived.Lib.Builder
import Derived.Laws.Externs
import Derived.Lib.FrozenHead
import Derived.Lib.ItoaNum
import Derived.Lib.LaidTab
import Derived.Lib.SmallJoins
import Derived.Lib.AppendIntMem
namespace Go.Proofs.YthodlgjfmddemaaGreatDoor.Rk
open Go.RowKit

abbrev bytesV (l : List UInt8) : List Value := l.map fun c => Value.int .u8 (c.toNat : Int)
theorem byteInfo : (Tryz.prog.info? 5).map (fun i => (i.zero, i.size, i.bytes)) = some (some (.int .u8 0), 1, 1) := by kernel_rfl
theorem bInfo : (Tryz.prog.info? 91).map (·.size) = some 2 := by kernel_rfl
theorem bLies : liesAt Tryz.prog Tryz.prog.depth 91 (2 / Tryz.prog.cellsOf 91) 0 91 1 = true := by kernel_rfl
theorem own_form {w : World} {B e s n : Nat} {v : Value} {xs : List Value} (h : w.ownsRow B e s v n xs) : ∃ p c, v = .slice p n c := by
  rcases h.2 with ⟨rfl, rfl⟩ | ⟨g, c, cur, rfl, _⟩
  · exact ⟨_, _, rfl⟩
  · exact ⟨_, _, rfl⟩
/-- a builder, in its box, with the bytes written -/
def BU (w : World) (B b : Nat) (l : List UInt8) : Prop := Lib.IsBuilder 91 5 B b (bytesV l) w

set_option maxRecDepth 100000 in
set_option maxHeartbeats 1600000 in
theorem check_used (b : Nat) (w : World) (h0 : w.cell? ⟨b, 0, none⟩ = some (.pointer (some ⟨b, 0, none⟩))) :
    Calls Tryz.prog 82 #[.pointer (some ⟨b, 0, none⟩)] w fun e w' => e = .returned (.tuple #[]) ∧ w' = w := by
  obtain ⟨j, hj, _⟩ := Option.map_eq_some_iff.1 bInfo
  go_enter Tryz.func82, Tryz.ntmps82
  go_wp2
  rw [Lib.run_neq_ptr_same w _ Tryz.underlying88 hj]
  go_wp2
  go_end0
  exact ⟨rfl, rfl⟩

set_option maxRecDepth 100000 in
set_option maxHeartbeats 1600000 in
theorem check_fresh (b : Nat) (w : World) (h0 : w.cell? ⟨b, 0, none⟩ = some (.pointer none)) (hsh : w.shape? b = some (91, 2)) (hfz : w.frozen? ⟨b, 0, none⟩ = false) :
    Calls Tryz.prog 82 #[.pointer (some ⟨b, 0, none⟩)] w fun e w' => e = .returned (.tuple #[]) ∧ w' = w.setCell ⟨b, 0, none⟩ (.pointer (some ⟨b, 0, none⟩)) := by
  obtain ⟨j, hj, hjs⟩ := Option.map_eq_some_iff.1 bInfo
  go_enter Tryz.func82, Tryz.ntmps82
  go_wp2
  rw [Lib.run_to_unsafe w ⟨b, 0, none⟩ Tryz.underlying88 Tryz.underlying136 hj (by rw [hjs]; decide) hsh (Nat.zero_lt_succ 1)]
  simp only [Result.andThen]
  rw [Oper.upon_value]
  go_wp2
  rw [run_callFunc_extern Tryz.func103 (by kernel_rfl) (by kernel_rfl) (by kernel_rfl) (e := Extern.AbiNoEscape.same) (by kernel_rfl)]
  rw [Lib.run_noEscape]
  simp only [Result.andThen]
  rw [Oper.upon_value]
  go_wp2
  rw [Lib.run_from_unsafe w ⟨b, 0, none⟩ Tryz.underlying136 Tryz.underlying88 hj hsh bLies]
  simp only [Result.andThen]
  rw [Oper.upon_value]
  go_wp2
  go_end0
  exact ⟨rfl, rfl⟩

theorem check_any (B b : Nat) (l : List UInt8) (w : World) (h : BU w B b l) :
    Calls Tryz.prog 82 #[.pointer (some ⟨b, 0, none⟩)] w fun e w' => e = .returned (.tuple #[]) ∧ Lib.BuilderAt 91 5 B b (.pointer (some ⟨b, 0, none⟩)) (bytesV l) w' ∧ Below B w w' := by
  rcases h with h | h
  · refine (check_fresh b w h.cell0 h.shape h.frozen0).mono ?_
    rintro e w' ⟨rfl, rfl⟩
    exact ⟨rfl, h.used _, (Below.refl _ w).setCell h.1 _⟩
  · refine (check_used b w h.cell0).mono ?_
    rintro e w' ⟨rfl, rfl⟩
    exact ⟨rfl, h, Below.refl _ _⟩


/-- a text of bytes -/
def toB (l : List UInt8) : ByteArray := ⟨l.toArray⟩
theorem toB_size (l : List UInt8) : (toB l).size = l.length := by simp [toB, ByteArray.size]
set_option maxRecDepth 100000 in
set_option maxHeartbeats 3200000 in
/-- a text is written -/
theorem ws_any (B b : Nat) (L S : List UInt8) (w : World) (h : BU w B b L) (hl : L.length + S.length ≤ 140737488355328) (hBw : B ≤ w.heap.size) :
    Calls Tryz.prog 53 #[.pointer (some ⟨b, 0, none⟩), .string (toB S)] w fun e w' => e = .returned (.tuple #[.int .i64 (S.length : Int), .nilIface]) ∧ BU w' B b (L ++ S) ∧ Below B w w' := by
  have hsz := toB_size S
  have HC := Lib.hid (check_any B b L w h)
  obtain ⟨i0, hi0, hz0, hz1, hz2⟩ := info_parts byteInfo
  clear h
  go_enter Tryz.func53, Tryz.ntmps53
  go_wp2_with fail
  refine HC.out.mono ?_
  rintro e w1 ⟨rfl, hb1, hbw1⟩
  obtain ⟨hB, v, hk, ho, hne⟩ := hb1
  have hlen : (bytesV L).length = L.length := by simp [bytesV]
  rw [hlen] at ho
  have HO := Lib.hid ho
  obtain ⟨A, cp, rfl⟩ := own_form ho
  have HK := Lib.hid hk
  have HB1 := Lib.hid hbw1
  have c0 : ∀ j, w1.cell? ⟨b, j, none⟩ = #[Value.pointer (some ⟨b, 0, none⟩), Value.slice A L.length cp][j]? := fun j => by simp [World.cell?, hk]
  have hB1 : B ≤ w1.heap.size := Nat.le_trans hBw hbw1.size
  have hlt : b < w1.heap.size := (Array.getElem?_eq_some_iff.1 hk).1
  clear ho hk hbw1 HC hne
  go_wp2_with (at_builtin; refine Lib.wpList_append_own_string _ rfl _ _ 89 9 rfl B 5 i0 Tryz.underlying89 Tryz.underlying9 hi0 hz0 hz1 hz2 _ L.length _ rfl HO.out (toB S) rfl ?c3 ?c4 ?c5 ?_)
  case c3 => unfold maxLen; omega
  case c4 => omega
  case c5 => omega
  intro v6 w6 hown6 hg6 _
  have hap : bytesV L ++ Lib.strCells (toB S) = bytesV (L ++ S) := by
    unfold Lib.strCells
    rw [show (toB S).data.toList = S from rfl]
    simp [bytesV]
  have hlen2 : (bytesV (L ++ S)).length = L.length + S.length := by simp [bytesV]
  rw [hap] at hown6
  have hk6 := (hg6.block b hlt (fun e => Lib.ownBlock_ne HO.out HK.out (by decide) e.symm)).trans HK.out
  have HPut := Lib.hid (Lib.BuilderAt.put hB hk6 (show w6.ownsRow B 5 1 v6 (bytesV (L ++ S)).length (bytesV (L ++ S)) by rw [hlen2]; exact hown6) (by decide))
  have HB6 := Lib.hid ((HB1.out.grown hg6 hB1 (fun g hg => (HO.out.lt g hg).1)).setCell (p := ⟨b, 1, none⟩) hB v6)
  have c6 : ∀ j, w6.cell? ⟨b, j, none⟩ = #[Value.pointer (some ⟨b, 0, none⟩), Value.slice A L.length cp][j]? := fun j => by simp [World.cell?, hk6]
  have z6 : ∀ j, w6.frozen? ⟨b, j, none⟩ = false := fun j => by simp [World.frozen?, hk6]
  obtain ⟨A7, c7, rfl⟩ := own_form hown6
  clear hown6 hg6 hk6 c0
  go_wp2_with fail
  exact bodyPost_ret (v := .tuple #[.int .i64 (S.length : Int), .nilIface]) (by simp [results, Tryz.results53, go_sem]) rfl ⟨rfl, .inr HPut.out, HB6.out⟩
theorem divide_any (u v : Value) (x y : Nat) (w : World) (hu : NL w u x) (hv : NL w v y) (hx : nl x ≤ 100000) (hy : nl y ≤ 100000) (hy0 : 0 < y) :
    Calls Tryz.prog 51 #[u, v] w (DivP x y w) := by
  by_cases hlt : x < y
  · exact divide_less u v x y w hu hv hx hy hlt
  · have hle : y ≤ x := by omega
    rcases hn : nl y with _ | _ | t
    · exact absurd (nl_eq_zero.1 hn) (by omega)
    · exact divide_one u v x y w hu hv hx hn hle
    · exact divide_long u v x y w hu hv hx t hn hle
/-- the table of powers of ten lies as its initialiser lays it -/
def Pow (w : World) : Prop := Lib.TabIs Tryz.prog w "internal/strconv.uint64pow10" .u64 Lib.pow10Tab
theorem gPow : Tryz.prog.globalNamed "internal/strconv.uint64pow10" = some 3 := by kernel_rfl
theorem Pow.keep {w w' : World} (h : Pow w) (hb : Below w.heap.size w w') : Pow w' := Joins.tab_stays gPow h hb (Nat.le_refl _)
theorem itoa_any (n : Int) (h0 : -1000000000 ≤ n) (h1 : n ≤ 1000000000) (w : World) (hp : Pow w) :
    Calls Tryz.prog 52 #[.int .i64 n] w fun e w' => e = .returned (.string ⟨(Lib.itoa n).toArray⟩) ∧ Below w.heap.size w w' :=
  (Tryz.strconv_Itoa n (by omega) (by omega) w hp).mono fun _ _ ⟨he, k, os, hw⟩ => ⟨he, by subst hw; exact Lib.below_grow _ w (Nat.le_refl _) k os⟩
theorem dec_digs {x : Nat} (h : x ≠ 0) : Lib.decDigits x = digs x := by
  induction x using Nat.strongRecOn with
  | ind x ih =>
    rw [digs_pos h]
    by_cases hx : x < 10
    · rw [Lib.decDigits, dif_pos hx, Nat.div_eq_of_lt hx, digs_zero, Nat.mod_eq_of_lt hx]
      rfl
    · rw [Lib.decDigits, dif_neg hx, ih (x / 10) (by omega) (by omega)]
/-- a limb's nine digits -/
theorem limb_padd {x : Nat} (h : x < Bq) : (Lib.itoa (x : Int)).length ≤ 9 ∧ 0 < (Lib.itoa (x : Int)).length ∧ List.replicate (9 - (Lib.itoa (x : Int)).length) 48 ++ Lib.itoa (x : Int) = padd 9 x ∧ (x ≠ 0 → Lib.itoa (x : Int) = digs x) := by
  have hi : Lib.itoa (x : Int) = Lib.decDigits x := by
    unfold Lib.itoa
    rw [if_neg (by omega)]
    rfl
  rw [hi]
  by_cases h0 : x = 0
  · subst h0
    have : Lib.decDigits 0 = [48] := by rw [Lib.decDigits, dif_pos (by decide)]; rfl
    rw [this]
    exact ⟨by decide, by decide, by decide, fun h => absurd rfl h⟩
  · rw [dec_digs h0]
    have h9 : x < 10 ^ 9 := h
    have hl := (digs_len 9 x).1 h9
    exact ⟨hl, digs_ne h0, (padd_short h9).symm, fun _ => rfl⟩
end Go.Proofs.YthodlgjfmddemaaGreatDoor.Rk
