/- Shell variables: drop, fits. -/
import Derived.Test.YtiapondfajmkaaaGreatDoorSvT
namespace Go.Proofs.YtiapondfajmkaaaGreatDoor
open Go.RowKit

def DropP (B b : Nat) (w : World) (e : Ending) (w' : World) : Prop := e = .returned (.tuple #[]) ∧ Part B b w w'
set_option maxRecDepth 100000 in
set_option maxHeartbeats 3200000 in
theorem drop_any (B b : Nat) (S : ShV) (A V : SV) (P : List VE) (t : ByteArray) (w : World) (h : InBox B b w S A V P) (hr : Rises S.vs) (h0 : 0 < S.vs.length) (hn : S.vs.length ≤ 2000) :
    Calls Tryz.prog 95 #[.pointer (some ⟨b, 0, none⟩), .string t] w (DropP B b w) := by
  obtain ⟨Q, hQ⟩ : ∃ Q, DropP B b w = Q := ⟨_, rfl⟩
  rw [hQ]
  have HQ := Lib.hid (fun e w' (h : DropP B b w e w') => (show Q e w' from hQ ▸ h))
  clear hQ
  have hPl := h.len
  obtain ⟨VA, Vn, Vc⟩ := V
  obtain ⟨g, c, hV⟩ := own_some h.vo.own (by omega)
  obtain ⟨rfl, rfl, hcc⟩ : VA = some ⟨g, 0, none⟩ ∧ Vn = P.length ∧ c = Vc := by injection hV with a b c; exact ⟨a, b, c.symm⟩
  subst hcc
  obtain ⟨n, hnn⟩ : ∃ n, n = P.length := ⟨_, rfl⟩
  rw [← hnn] at h hV hPl
  have HNN := Lib.hid hnn
  have HI := Lib.hid h
  have HSK := Lib.hid (seek_any S.vs t (some ⟨g, 0, none⟩) n c b w (h.blk.cell.1 2) (by have := h.vo.vl; rw [h.map] at this; exact this) hr hn)
  have hgB : B ≤ g := (h.vo.own.lt g rfl).1
  have hbB := h.lt
  clear h hr hnn hV
  unfold SeekP at HSK
  cases hh : hasV S.vs t
  · rw [hh] at HSK
    have HF := Lib.hid (fun w2 (h2 : Below w.heap.size w w2) => HQ.out (.returned (.tuple #[])) w2 ⟨rfl, Part.below h2 HI.out.le⟩)
    generalize cntV S.vs t = k at *
    clear hh hPl hn h0
    go_enter Tryz.func95, Tryz.ntmps95
    go_wp2_with (go_at_call 54; refine HSK.out.mono ?_; rintro e w2 ⟨rfl, hb2⟩)
    go_end0
    exact HF.out _ hb2
  · rw [hh] at HSK
    obtain ⟨hl, q1, q2⟩ := getD_yes hh
    clear q1 q2
    have hkn : cntV S.vs t < n := by omega
    generalize cntV S.vs t = k at *
    have hn2 : n ≤ 2000 := by omega
    have e1 : IntKind.i64.wrap ((k : Int) + 1) = (k : Int) + 1 := IntWalk.i64_in _ (by omega)
    clear hh hPl hn h0 hl
    go_enter Tryz.func95, Tryz.ntmps95
    go_upto_region 2 with (go_at_call 54; refine HSK.out.mono ?_; rintro e w2 ⟨rfl, hb2⟩)
    have HI2 := Lib.hid (HI.out.keep hb2)
    have hOwn : w2.ownsRow B 32 6 (.slice (some ⟨g, 0, none⟩) n c) n (prV P) := by
      have := HI2.out.vo.own
      rw [← HNN.out] at this
      exact this
    have HD := Lib.hid (delete_any B g n c k P w2 hOwn HNN.out hn2 hkn)
    have hle2 := HI2.out.le
    have HP2 := Lib.hid (show Part B b w w2 from Part.below hb2 HI.out.le)
    have cb : w2.cell? ⟨b, 2, none⟩ = some (.slice (some ⟨g, 0, none⟩) n c) := HI2.out.blk.cell.1 2
    clear hb2 hOwn
    go_wp2_with (go_at_call 17; refine HD.out.mono ?_; rintro e w3 ⟨rfl, hg3⟩; have hb3 : Blk w3 b 28 (cS S A (some ⟨g, 0, none⟩, n, c)) := HI2.out.blk.grown hg3 (fun e => by injection e with e; omega); have c3 : w3.cell? ⟨b, 2, none⟩ = some (.slice (some ⟨g, 0, none⟩) n c) := hb3.cell.1 2; have f3 := hb3.cell.2 2; have HF := Lib.hid (HQ.out (.returned (.tuple #[])) (w3.setCell ⟨b, 2, none⟩ (.slice (some ⟨g, 0, none⟩) (n - 1) c)) ⟨rfl, (HP2.out.trans (Part.grown hg3 hgB hle2)).trans (Part.setCell w3 2 _)⟩); clear hg3 hb3)
    go_end0
    exact HF.out
def FitsP (S : ShV) (w : World) (e : Ending) (w' : World) : Prop := ∃ f : Bool, e = .returned (.bool f) ∧ (f = true ↔ S.vs.length ≤ 200 ∧ sizeS S ≤ 65536) ∧ Below w.heap.size w w'
set_option maxRecDepth 100000 in
set_option maxHeartbeats 1600000 in
theorem fits_any (B b : Nat) (S : ShV) (A V : SV) (P : List VE) (w : World) (h : InBox B b w S A V P) (hs : Small S) :
    Calls Tryz.prog 94 #[.pointer (some ⟨b, 0, none⟩)] w (FitsP S w) := by
  obtain ⟨AA, an, ac⟩ := A
  obtain ⟨VA, vn, vc⟩ := V
  have hSZ : Calls Tryz.prog 29 #[.agg #[.string S.nm, .slice AA an ac, .slice VA vn vc, .slice none 0 0, .slice none 0 0, .int .i64 S.op, .int .i64 S.st, .int .i64 S.msk, .string S.dr]] w (SizeP S w) := size_any S ⟨(AA, an, ac), (VA, vn, vc)⟩ w ⟨h.ar, by have := h.vo.vl; rw [h.map] at this; exact this⟩ hs
  have HSZ := Lib.hid hSZ
  have hvn : vn = S.vs.length := by
    have := h.vo.vl
    rw [h.map] at this
    exact (VL.at this).1
  subst hvn
  obtain ⟨x0, x1, x2, x3, x4, x5, x6, x7, x8, _⟩ := Blk.nine (show Blk w b 28 #[.string S.nm, .slice AA an ac, .slice VA S.vs.length vc, .slice none 0 0, .slice none 0 0, .int .i64 S.op, .int .i64 S.st, .int .i64 S.msk, .string S.dr] from h.blk)
  obtain ⟨Q, hQ⟩ : ∃ Q, FitsP S w = Q := ⟨_, rfl⟩
  rw [hQ]
  have HQ := Lib.hid (fun e w' (h : FitsP S w e w') => (show Q e w' from hQ ▸ h))
  clear hQ hSZ h hs
  by_cases h1 : S.vs.length ≤ 200
  · have hz1 : (S.vs.length : Int) ≤ 200 := by omega
    by_cases h2 : sizeS S ≤ 65536
    · have hz2 : ((sizeS S : Nat) : Int) ≤ 65536 := by omega
      have HF := Lib.hid (fun w2 (hb : Below w.heap.size w w2) => HQ.out (.returned (.bool true)) w2 ⟨true, rfl, ⟨fun _ => ⟨h1, h2⟩, fun _ => rfl⟩, hb⟩)
      clear h1 h2
      go_enter Tryz.func94, Tryz.ntmps94
      go_wp2_with (go_at_call 29; refine HSZ.out.mono ?_; rintro e w3 ⟨rfl, hb3⟩)
      exact HF.out _ hb3
    · have hz2 : ¬ ((sizeS S : Nat) : Int) ≤ 65536 := by omega
      have hz3 : decide (((sizeS S : Nat) : Int) ≤ 65536) = false := decide_eq_false hz2
      have HF := Lib.hid (fun w2 (hb : Below w.heap.size w w2) => HQ.out (.returned (.bool false)) w2 ⟨false, rfl, ⟨(fun h => by cases h), (fun h => absurd h.2 h2)⟩, hb⟩)
      clear h1 h2
      go_enter Tryz.func94, Tryz.ntmps94
      go_wp2_with (go_at_call 29; refine HSZ.out.mono ?_; rintro e w3 ⟨rfl, hb3⟩)
      exact HF.out _ hb3
  · have hz1 : ¬ (S.vs.length : Int) ≤ 200 := by omega
    have HF := Lib.hid (HQ.out (.returned (.bool false)) w ⟨false, rfl, ⟨(fun h => by cases h), (fun h => absurd h.1 h1)⟩, Below.refl _ _⟩)
    clear h1
    go_enter Tryz.func94, Tryz.ntmps94
    go_wp2_with fail
    exact HF.out
end Go.Proofs.YtiapondfajmkaaaGreatDoor
