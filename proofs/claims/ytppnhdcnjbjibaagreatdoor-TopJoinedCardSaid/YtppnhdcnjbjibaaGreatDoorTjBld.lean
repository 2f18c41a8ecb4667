/- TopJoined: strings.Builder: WriteString, WriteByte. (Put together from SplitC and RkS.) -/
import Derived.Test.YtppnhdcnjbjibaaGreatDoorBase
import Derived.Test.YtppnhdcnjbjibaaGreatDoorShelf
import Derived.Test.YtppnhdcnjbjibaaGreatDoorTjOrd
import Derived.Lib.Builder
import Derived.Laws.Externs
import Derived.Lib.FrozenHead
import Derived.Lib.Hide
import Derived.Laws.AppendOwn
import Derived.Maps.AppendAt
namespace Go.Proofs.YtppnhdcnjbjibaaGreatDoor
open Go.RowKit

theorem new_one (w : World) (u : Value) (t : TypeId) : ∀ j z, ([u] : List Value)[j]? = some z → (w.alloc (.cells #[u] t)).cell? ((⟨w.heap.size, 0, none⟩ : Addr).add j) = some z := fun j z hz => by
  have hh := heap_alloc_new w (.cells #[u] t)
  match j, hz with
  | 0, hz => rw [← hz, WideShapes.add_plain]; unfold World.cell?; dsimp only; rw [hh]; rfl
  | j + 1, hz => simp at hz

abbrev bytesV (l : List UInt8) : List Value := l.map fun c => Value.int .u8 (c.toNat : Int)
theorem byteInfo : (Tryz.prog.info? 5).map (fun i => (i.zero, i.size, i.bytes)) = some (some (.int .u8 0), 1, 1) := by kernel_rfl
theorem bInfo : (Tryz.prog.info? 100).map (·.size) = some 2 := by kernel_rfl
theorem bLies : liesAt Tryz.prog Tryz.prog.depth 100 (2 / Tryz.prog.cellsOf 100) 0 100 1 = true := by kernel_rfl
theorem own_form {w : World} {B e s n : Nat} {v : Value} {xs : List Value} (h : w.ownsRow B e s v n xs) : ∃ p c, v = .slice p n c := by
  rcases h.2 with ⟨rfl, rfl⟩ | ⟨g, c, cur, rfl, _⟩
  · exact ⟨_, _, rfl⟩
  · exact ⟨_, _, rfl⟩
/-- a builder, in its box, with the bytes written -/
def BU (w : World) (B b : Nat) (l : List UInt8) : Prop := Lib.IsBuilder 100 5 B b (bytesV l) w

set_option maxRecDepth 100000 in
set_option maxHeartbeats 1600000 in
theorem check_used (b : Nat) (w : World) (h0 : w.cell? ⟨b, 0, none⟩ = some (.pointer (some ⟨b, 0, none⟩))) :
    Calls Tryz.prog 78 #[.pointer (some ⟨b, 0, none⟩)] w fun e w' => e = .returned (.tuple #[]) ∧ w' = w := by
  obtain ⟨j, hj, _⟩ := Option.map_eq_some_iff.1 bInfo
  go_enter Tryz.func78, Tryz.ntmps78
  go_wp2
  rw [Lib.run_neq_ptr_same w _ Tryz.underlying97 hj]
  go_wp2
  go_end0
  exact ⟨rfl, rfl⟩

set_option maxRecDepth 100000 in
set_option maxHeartbeats 1600000 in
theorem check_fresh (b : Nat) (w : World) (h0 : w.cell? ⟨b, 0, none⟩ = some (.pointer none)) (hsh : w.shape? b = some (100, 2)) (hfz : w.frozen? ⟨b, 0, none⟩ = false) :
    Calls Tryz.prog 78 #[.pointer (some ⟨b, 0, none⟩)] w fun e w' => e = .returned (.tuple #[]) ∧ w' = w.setCell ⟨b, 0, none⟩ (.pointer (some ⟨b, 0, none⟩)) := by
  obtain ⟨j, hj, hjs⟩ := Option.map_eq_some_iff.1 bInfo
  go_enter Tryz.func78, Tryz.ntmps78
  go_wp2
  rw [Lib.run_to_unsafe w ⟨b, 0, none⟩ Tryz.underlying97 Tryz.underlying147 hj (by rw [hjs]; decide) hsh (Nat.zero_lt_succ 1)]
  simp only [Result.andThen]
  rw [Oper.upon_value]
  go_wp2
  rw [run_callFunc_extern Tryz.func106 (by kernel_rfl) (by kernel_rfl) (by kernel_rfl) (e := Extern.AbiNoEscape.same) (by kernel_rfl)]
  rw [Lib.run_noEscape]
  simp only [Result.andThen]
  rw [Oper.upon_value]
  go_wp2
  rw [Lib.run_from_unsafe w ⟨b, 0, none⟩ Tryz.underlying147 Tryz.underlying97 hj hsh bLies]
  simp only [Result.andThen]
  rw [Oper.upon_value]
  go_wp2
  go_end0
  exact ⟨rfl, rfl⟩

theorem check_any (B b : Nat) (l : List UInt8) (w : World) (h : BU w B b l) :
    Calls Tryz.prog 78 #[.pointer (some ⟨b, 0, none⟩)] w fun e w' => e = .returned (.tuple #[]) ∧ Lib.BuilderAt 100 5 B b (.pointer (some ⟨b, 0, none⟩)) (bytesV l) w' ∧ Below B w w' := by
  rcases h with h | h
  · refine (check_fresh b w h.cell0 h.shape h.frozen0).mono ?_
    rintro e w' ⟨rfl, rfl⟩
    exact ⟨rfl, h.used _, (Below.refl _ w).setCell h.1 _⟩
  · refine (check_used b w h.cell0).mono ?_
    rintro e w' ⟨rfl, rfl⟩
    exact ⟨rfl, h, Below.refl _ _⟩

set_option maxRecDepth 100000 in
set_option maxHeartbeats 1600000 in
theorem wb_any (B b : Nat) (l : List UInt8) (c : UInt8) (w : World) (h : BU w B b l) (hl : l.length ≤ 1000000000) (hBw : B ≤ w.heap.size) :
    Calls Tryz.prog 46 #[.pointer (some ⟨b, 0, none⟩), .int .u8 (c.toNat : Int)] w fun e w' => e = .returned .nilIface ∧ BU w' B b (l ++ [c]) ∧ Below B w w' := by
  have HC := Lib.hid (check_any B b l w h)
  clear h
  go_enter Tryz.func46, Tryz.ntmps46
  go_wp2_with fail
  refine HC.out.mono ?_
  rintro e w1 ⟨rfl, hb1, hbw1⟩
  obtain ⟨hB, v, hk, ho, hne⟩ := hb1
  have hlen : (bytesV l).length = l.length := by simp [bytesV]
  rw [hlen] at ho
  have HO := Lib.hid ho
  obtain ⟨A, cp, rfl⟩ := own_form ho
  have HK := Lib.hid hk
  have HB1 := Lib.hid hbw1
  have c0 : ∀ j, w1.cell? ⟨b, j, none⟩ = #[Value.pointer (some ⟨b, 0, none⟩), Value.slice A l.length cp][j]? := fun j => by simp [World.cell?, hk]
  have hB1 : B ≤ w1.heap.size := Nat.le_trans hBw hbw1.size
  have hlt : b < w1.heap.size := (Array.getElem?_eq_some_iff.1 hk).1
  clear ho hk hbw1 HC hne
  obtain ⟨i0, hi0, hz0, hz1, hz2⟩ := info_parts byteInfo
  have HOa := Lib.hid (HO.out.alloc (.cells #[.int .u8 (c.toNat : Int)] 5))
  have HN := Lib.hid (new_one w1 (.int .u8 (c.toNat : Int)) 5)
  have HB2 := Lib.hid (HB1.out.alloc hB1 (.cells #[.int .u8 (c.toNat : Int)] 5))
  have HK2 := Lib.hid ((show (w1.alloc (.cells #[.int .u8 (c.toNat : Int)] 5)).heap[b]? = w1.heap[b]? from Below.heap_alloc _ _ _ hlt).trans HK.out)
  go_wp2_with (at_builtin; refine wpList_append_own _ rfl _ _ 98 rfl B 5 i0 (.int .u8 0) 1 1 Tryz.underlying98 hi0 hz0 hz1 hz2 rfl (by decide) _ l.length _ rfl HOa.out ⟨w1.heap.size, 0, none⟩ 1 1 [.int .u8 (c.toNat : Int)] rfl rfl HN.out (fun u hu => by simp at hu; subst hu; rfl) ?c3 ?c4 ?c5 ?_)
  case c3 => unfold maxLen; omega
  case c4 => omega
  case c5 => simp; omega
  intro v6 w6 hown6 hg6 _
  have hlen2 : (bytesV (l ++ [c])).length = l.length + 1 := by simp [bytesV]
  have hap : bytesV l ++ [Value.int .u8 (c.toNat : Int)] = bytesV (l ++ [c]) := by simp [bytesV]
  rw [hap] at hown6
  have hk6 := (hg6.block b (by simp; omega) (fun e => Lib.ownBlock_ne HOa.out HK2.out (by decide) e.symm)).trans HK2.out
  have HPut := Lib.hid (Lib.BuilderAt.put hB hk6 (show w6.ownsRow B 5 1 v6 (bytesV (l ++ [c])).length (bytesV (l ++ [c])) by rw [hlen2]; exact hown6) (by decide))
  have HB6 := Lib.hid ((HB2.out.grown hg6 (by simp; omega) (fun g hg => (HOa.out.lt g hg).1)).setCell (p := ⟨b, 1, none⟩) hB v6)
  have c6 : ∀ j, w6.cell? ⟨b, j, none⟩ = #[Value.pointer (some ⟨b, 0, none⟩), Value.slice A l.length cp][j]? := fun j => by simp [World.cell?, hk6]
  have z6 : ∀ j, w6.frozen? ⟨b, j, none⟩ = false := fun j => by simp [World.frozen?, hk6]
  obtain ⟨A7, c7, rfl⟩ := own_form hown6
  clear hown6 hg6 hk6 c0
  go_wp2_with fail
  go_ret
  exact ⟨rfl, .inr HPut.out, HB6.out⟩

set_option maxRecDepth 100000 in
set_option maxHeartbeats 3200000 in
/-- a text is written -/
theorem ws_any (B b : Nat) (L S : List UInt8) (w : World) (h : BU w B b L) (hl : L.length + S.length ≤ 140737488355328) (hBw : B ≤ w.heap.size) :
    Calls Tryz.prog 45 #[.pointer (some ⟨b, 0, none⟩), .string (toB S)] w fun e w' => e = .returned (.tuple #[.int .i64 (S.length : Int), .nilIface]) ∧ BU w' B b (L ++ S) ∧ Below B w w' := by
  have hsz := toB_size S
  have HC := Lib.hid (check_any B b L w h)
  obtain ⟨i0, hi0, hz0, hz1, hz2⟩ := info_parts byteInfo
  clear h
  go_enter Tryz.func45, Tryz.ntmps45
  go_wp2_with fail
  refine HC.out.mono ?_
  rintro e w1 ⟨rfl, hb1, hbw1⟩
  obtain ⟨hB, v, hk, ho, hne⟩ := hb1
  have hlen : (bytesV L).length = L.length := by simp [bytesV]
  rw [hlen] at ho
  have HO := Lib.hid ho
  obtain ⟨A, cp, rfl⟩ := own_form ho
  have HK := Lib.hid hk
  have HB1 := Lib.hid hbw1
  have c0 : ∀ j, w1.cell? ⟨b, j, none⟩ = #[Value.pointer (some ⟨b, 0, none⟩), Value.slice A L.length cp][j]? := fun j => by simp [World.cell?, hk]
  have hB1 : B ≤ w1.heap.size := Nat.le_trans hBw hbw1.size
  have hlt : b < w1.heap.size := (Array.getElem?_eq_some_iff.1 hk).1
  clear ho hk hbw1 HC hne
  go_wp2_with (at_builtin; refine Lib.wpList_append_own_string _ rfl _ _ 98 9 rfl B 5 i0 Tryz.underlying98 Tryz.underlying9 hi0 hz0 hz1 hz2 _ L.length _ rfl HO.out (toB S) rfl ?c3 ?c4 ?c5 ?_)
  case c3 => unfold maxLen; omega
  case c4 => omega
  case c5 => omega
  intro v6 w6 hown6 hg6 _
  have hap : bytesV L ++ Lib.strCells (toB S) = bytesV (L ++ S) := by
    unfold Lib.strCells
    rw [show (toB S).data.toList = S from rfl]
    simp [bytesV]
  have hlen2 : (bytesV (L ++ S)).length = L.length + S.length := by simp [bytesV]
  rw [hap] at hown6
  have hk6 := (hg6.block b hlt (fun e => Lib.ownBlock_ne HO.out HK.out (by decide) e.symm)).trans HK.out
  have HPut := Lib.hid (Lib.BuilderAt.put hB hk6 (show w6.ownsRow B 5 1 v6 (bytesV (L ++ S)).length (bytesV (L ++ S)) by rw [hlen2]; exact hown6) (by decide))
  have HB6 := Lib.hid ((HB1.out.grown hg6 hB1 (fun g hg => (HO.out.lt g hg).1)).setCell (p := ⟨b, 1, none⟩) hB v6)
  have c6 : ∀ j, w6.cell? ⟨b, j, none⟩ = #[Value.pointer (some ⟨b, 0, none⟩), Value.slice A L.length cp][j]? := fun j => by simp [World.cell?, hk6]
  have z6 : ∀ j, w6.frozen? ⟨b, j, none⟩ = false := fun j => by simp [World.frozen?, hk6]
  obtain ⟨A7, c7, rfl⟩ := own_form hown6
  clear hown6 hg6 hk6 c0
  go_wp2_with fail
  exact bodyPost_ret (v := .tuple #[.int .i64 (S.length : Int), .nilIface]) (by simp [results, Tryz.results45, go_sem]) rfl ⟨rfl, .inr HPut.out, HB6.out⟩
end Go.Proofs.YtppnhdcnjbjibaaGreatDoor
