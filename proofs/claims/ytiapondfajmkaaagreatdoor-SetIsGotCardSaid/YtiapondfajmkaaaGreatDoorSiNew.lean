/- SetIsGot: a new shell (the first part of TlA). -/
import Derived.Test.YtiapondfajmkaaaGreatDoorSvW
namespace Go.Proofs.YtiapondfajmkaaaGreatDoor
open Go.RowKit

def nHOME : ByteArray := ⟨#[72, 79, 77, 69]⟩
def nIFS : ByteArray := ⟨#[73, 70, 83]⟩
def nPWD : ByteArray := ⟨#[80, 87, 68]⟩
def nOLD : ByteArray := ⟨#[79, 76, 68, 80, 87, 68]⟩
/-- the state of a new shell -/
def newS : ShV := ⟨⟨#[115, 104]⟩, [], [⟨nHOME, ⟨#[47]⟩, false, [], true, false⟩, ⟨nIFS, ⟨#[32, 9, 10]⟩, false, [], false, false⟩, ⟨nPWD, ⟨#[47]⟩, false, [], true, false⟩], 0, 0, 18, ⟨#[47]⟩⟩
def NewP (w : World) (e : Ending) (w' : World) : Prop := ∃ V : SV, e = .returned (.agg (cellsS newS ⟨(none, 0, 0), V⟩)) ∧ ShM w' newS ⟨(none, 0, 0), V⟩ ∧ Below w.heap.size w w'
set_option maxRecDepth 100000 in
set_option maxHeartbeats 3200000 in
theorem new_any (w : World) : Calls Tryz.prog 13 #[.string ⟨#[47]⟩] w (NewP w) := by
  obtain ⟨Q, hQ⟩ : ∃ Q, NewP w = Q := ⟨_, rfl⟩
  rw [hQ]
  have HQ := Lib.hid (fun e w' (h : NewP w e w') => (show Q e w' from hQ ▸ h))
  clear hQ
  go_enter Tryz.func13, Tryz.ntmps13
  go_wp2_with fail
  have hb : Blk ((w.alloc (.cells #[.string ⟨#[115, 104]⟩, .slice none 0 0, .slice (some ⟨w.heap.size + 1, 0, none⟩) 3 3, .slice none 0 0, .slice none 0 0, .int .i64 0, .int .i64 0, .int .i64 18, .string ⟨#[47]⟩] 28)).alloc (.cells #[.string ⟨#[72, 79, 77, 69]⟩, .string ⟨#[47]⟩, .bool false, .slice none 0 0, .bool true, .bool false, .string ⟨#[73, 70, 83]⟩, .string ⟨#[32, 9, 10]⟩, .bool false, .slice none 0 0, .bool false, .bool false, .string ⟨#[80, 87, 68]⟩, .string ⟨#[47]⟩, .bool false, .slice none 0 0, .bool true, .bool false] 32)) w.heap.size 28 #[.string ⟨#[115, 104]⟩, .slice none 0 0, .slice (some ⟨w.heap.size + 1, 0, none⟩) 3 3, .slice none 0 0, .slice none 0 0, .int .i64 0, .int .i64 0, .int .i64 18, .string ⟨#[47]⟩] := (Blk.new w _ _ rfl).alloc _
  have ho : ((w.alloc (.cells #[.string ⟨#[115, 104]⟩, .slice none 0 0, .slice (some ⟨w.heap.size + 1, 0, none⟩) 3 3, .slice none 0 0, .slice none 0 0, .int .i64 0, .int .i64 0, .int .i64 18, .string ⟨#[47]⟩] 28)).alloc (.cells #[.string ⟨#[72, 79, 77, 69]⟩, .string ⟨#[47]⟩, .bool false, .slice none 0 0, .bool true, .bool false, .string ⟨#[73, 70, 83]⟩, .string ⟨#[32, 9, 10]⟩, .bool false, .slice none 0 0, .bool false, .bool false, .string ⟨#[80, 87, 68]⟩, .string ⟨#[47]⟩, .bool false, .slice none 0 0, .bool true, .bool false] 32)).ownsRow w.heap.size 32 6 (.slice (some ⟨w.heap.size + 1, 0, none⟩) 3 3) 3 (prV (newS.vs.map fun v => (v, ((none, 0, 0) : SV)))) := by
    have := World.ownsRow_lit (base := w.heap.size) (e := 32) (size := 6) (w.alloc (.cells #[.string ⟨#[115, 104]⟩, .slice none 0 0, .slice (some ⟨w.heap.size + 1, 0, none⟩) 3 3, .slice none 0 0, .slice none 0 0, .int .i64 0, .int .i64 0, .int .i64 18, .string ⟨#[47]⟩] 28)) #[.string ⟨#[72, 79, 77, 69]⟩, .string ⟨#[47]⟩, .bool false, .slice none 0 0, .bool true, .bool false, .string ⟨#[73, 70, 83]⟩, .string ⟨#[32, 9, 10]⟩, .bool false, .slice none 0 0, .bool false, .bool false, .string ⟨#[80, 87, 68]⟩, .string ⟨#[47]⟩, .bool false, .slice none 0 0, .bool true, .bool false] 3 (by simp) (by decide) rfl
    rw [show (w.alloc (.cells #[.string ⟨#[115, 104]⟩, .slice none 0 0, .slice (some ⟨w.heap.size + 1, 0, none⟩) 3 3, .slice none 0 0, .slice none 0 0, .int .i64 0, .int .i64 0, .int .i64 18, .string ⟨#[47]⟩] 28)).heap.size = w.heap.size + 1 by simp] at this
    exact this
  have hv := VL.of_own ho (fun p hp => by
    obtain ⟨v, hv, rfl⟩ := List.mem_map.1 hp
    simp only [newS, List.mem_cons, List.not_mem_nil, or_false] at hv
    obtain rfl | rfl | rfl := hv <;> exact SL.empty _)
  have hbl : Below w.heap.size w ((w.alloc (.cells #[.string ⟨#[115, 104]⟩, .slice none 0 0, .slice (some ⟨w.heap.size + 1, 0, none⟩) 3 3, .slice none 0 0, .slice none 0 0, .int .i64 0, .int .i64 0, .int .i64 18, .string ⟨#[47]⟩] 28)).alloc (.cells #[.string ⟨#[72, 79, 77, 69]⟩, .string ⟨#[47]⟩, .bool false, .slice none 0 0, .bool true, .bool false, .string ⟨#[73, 70, 83]⟩, .string ⟨#[32, 9, 10]⟩, .bool false, .slice none 0 0, .bool false, .bool false, .string ⟨#[80, 87, 68]⟩, .string ⟨#[47]⟩, .bool false, .slice none 0 0, .bool true, .bool false] 32)) := ((Below.refl _ w).alloc (Nat.le_refl _) _).alloc (by simp) _
  have HF := HQ.out (.returned (.agg #[.string ⟨#[115, 104]⟩, .slice none 0 0, .slice (some ⟨w.heap.size + 1, 0, none⟩) 3 3, .slice none 0 0, .slice none 0 0, .int .i64 0, .int .i64 0, .int .i64 18, .string ⟨#[47]⟩])) _ ⟨(some ⟨w.heap.size + 1, 0, none⟩, 3, 3), rfl, ⟨SL.empty _, hv⟩, hbl⟩
  obtain ⟨W, hW⟩ : ∃ W, W = (w.alloc (.cells #[.string ⟨#[115, 104]⟩, .slice none 0 0, .slice (some ⟨w.heap.size + 1, 0, none⟩) 3 3, .slice none 0 0, .slice none 0 0, .int .i64 0, .int .i64 0, .int .i64 18, .string ⟨#[47]⟩] 28)).alloc (.cells #[.string ⟨#[72, 79, 77, 69]⟩, .string ⟨#[47]⟩, .bool false, .slice none 0 0, .bool true, .bool false, .string ⟨#[73, 70, 83]⟩, .string ⟨#[32, 9, 10]⟩, .bool false, .slice none 0 0, .bool false, .bool false, .string ⟨#[80, 87, 68]⟩, .string ⟨#[47]⟩, .bool false, .slice none 0 0, .bool true, .bool false] 32) := ⟨_, rfl⟩
  rw [← hW] at HF hb ⊢
  obtain ⟨z0, z1, z2, z3, z4, z5, z6, z7, z8, _⟩ := hb.nine
  exact bodyPost_ret (v := .agg #[.string ⟨#[115, 104]⟩, .slice none 0 0, .slice (some ⟨w.heap.size + 1, 0, none⟩) 3 3, .slice none 0 0, .slice none 0 0, .int .i64 0, .int .i64 0, .int .i64 18, .string ⟨#[47]⟩]) (by simp [results, Tryz.results13, go_sem, z0, z1, z2, z3, z4, z5, z6, z7, z8]) rfl HF
end Go.Proofs.YtiapondfajmkaaaGreatDoor
