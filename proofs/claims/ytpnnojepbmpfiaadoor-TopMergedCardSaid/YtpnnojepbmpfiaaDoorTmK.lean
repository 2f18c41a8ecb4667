/- TopMerged: sure lines come to the pieces (sure). (Printed by tools/gtmk.py.) -/
import Derived.Test.YtpnnojepbmpfiaaDoorTmJ
namespace Go.Proofs.YtpnnojepbmpfiaaDoor
open Go.RowKit

/-- how many lines there are -/
def tot : List PC → Nat
  | [] => 0
  | q :: R => q.ln.length + q.ba.length + q.pa.length + q.pb.length + tot R
theorem tot_app : ∀ (R S : List PC), tot (R ++ S) = tot R + tot S
  | [], S => by simp [tot]
  | q :: R, S => by simp only [List.cons_append, tot, tot_app R S]; omega
theorem tot_rev : ∀ (R : List PC), tot R.reverse = tot R
  | [] => rfl
  | q :: R => by rw [List.reverse_cons, tot_app, tot_rev R]; simp only [tot]; omega
theorem tot_sur (R : List PC) (l : List ByteArray) : tot (surR R l) ≤ tot R + l.length := by
  cases R with
  | nil => simp only [surR]; split <;> simp [tot]
  | cons q R =>
    simp only [surR]
    split
    · exact Nat.le_add_right _ _
    · split
      · simp only [tot, List.length_nil]; omega
      · simp only [tot, List.length_append]; omega
theorem len_sur (R : List PC) (l : List ByteArray) : (surR R l).length ≤ R.length + 1 := by
  cases R with
  | nil => simp only [surR]; split <;> simp
  | cons q R =>
    simp only [surR]
    split
    · simp
    · split <;> simp
/-- can the last piece grow? -/
def growR : List PC → Bool
  | [] => false
  | q :: _ => !q.conf
theorem surR_new {R : List PC} {l : List ByteArray} (hl : l ≠ []) (hg : growR R = false) : surR R l = ⟨false, l, [], [], []⟩ :: R := by
  cases R with
  | nil => simp only [surR]; rw [if_neg hl]
  | cons q R =>
    have hq : q.conf = true := by simpa [growR] using hg
    simp only [surR]
    rw [if_neg hl, if_pos hq]
theorem surR_grow {q : PC} {R : List PC} {l : List ByteArray} (hl : l ≠ []) (hg : growR (q :: R) = true) : surR (q :: R) l = ⟨q.conf, q.ln ++ l, q.ba, q.pa, q.pb⟩ :: R ∧ q.conf = false := by
  have hq : q.conf = false := by simpa [growR] using hg
  simp only [surR]
  rw [if_neg hl, if_neg (by rw [hq]; simp)]
  exact ⟨rfl, hq⟩
theorem OwnF.both {w w' : World} {B : Nat} {lb lb' : Option Nat} {s : SV} {l : List ByteArray} (h : OwnF w B lb s l) (hg : w.grownBy w' lb) (hm : Moved w lb lb') : OwnF w' B lb' s l := ⟨h.own.kept hg h.ne, (h.moved hm).ne⟩
/-- the last piece's lines have grown -/
theorem Mg.grow {w0 wx w' : World} {vp : Value} {P : List PV} {c : Bool} {s b x y : SV} {q : PC} {R : List PC} {lb : Option Nat} {l : List ByteArray} {g cap cp g1 : Nat}
    (h : Mg w0 wx vp (P ++ [(c, s, b, x, y)]) (q :: R) lb) (hq : q.conf = false) (hv : vp = .slice (some ⟨g, 0, none⟩) (P.length + 1) cap)
    (hown : w'.ownsRow (w0.heap.size + 1) 9 1 (.slice (some ⟨g1, 0, none⟩) (q.ln.length + l.length) cp) (q.ln.length + l.length) ((q.ln ++ l).map Value.string)) (hg : wx.grownBy w' (sv s).ownBlock) (hat : (sv s).ownBlock = some g1 ∨ g1 = wx.heap.size) :
    Mg w0 (w'.setCell ⟨g, P.length * 5 + 1, none⟩ (.slice (some ⟨g1, 0, none⟩) (q.ln.length + l.length) cp)) vp (P ++ [(c, (some ⟨g1, 0, none⟩, q.ln.length + l.length, cp), b, x, y)]) (⟨q.conf, q.ln ++ l, q.ba, q.pa, q.pb⟩ :: R) (some g1) := by
  have hp := h.pcs
  rw [List.reverse_append] at hp
  obtain ⟨hh, ha⟩ := hp
  have hlb : (sv s).ownBlock = lb := hh.at_ hq
  have hls : OwnS wx (w0.heap.size + 1) s q.ln := hh.ln
  have hg2 : wx.grownBy w' lb := by rw [← hlb]; exact hg
  have hm : Moved wx lb (some g1) := by
    rcases hat with e | e
    · exact .inl (by rw [← e, hlb])
    · exact .inr ⟨g1, rfl, by omega⟩
  have hbl : w0.heap.size < wx.heap.size := (Array.getElem?_eq_some_iff.1 h.box).1
  have hbox : Blk w' w0.heap.size 47 #[vp] := (hg.block w0.heap.size hbl (fun e => own_blk hls h.box (by decide) w0.heap.size e.symm rfl)).trans h.box
  have hpo := h.own
  have hprow : w'.ownsRow (w0.heap.size + 1) 29 5 vp (P ++ [(c, s, b, x, y)]).length (prP (P ++ [(c, s, b, x, y)])) := hpo.kept hg (own_ne hpo hls (by decide))
  subst hv
  have hlen : (P ++ [(c, s, b, x, y)]).length = P.length + 1 := by simp
  rw [hlen] at hprow
  have hst := (hprow.stored (P.length * 5 + 1) (sv (some ⟨g1, 0, none⟩, q.ln.length + l.length, cp))).1
  rw [prP_set] at hst
  have hgp : ∀ cs, ¬ Blk w' g 9 cs := fun cs hcs => own_blk hprow hcs (by decide) g rfl rfl
  have hgm : g ≠ w0.heap.size := own_blk hprow hbox (by decide) g rfl
  have he := Elsewhere.set (i := P.length * 5 + 1) (v := .slice (some ⟨g1, 0, none⟩) (q.ln.length + l.length) cp) hgp
  have hb1 : Below w0.heap.size w0 w' := h.below.grown hg h.below.size (fun k hk => by have := hls.lt k hk; omega)
  refine ⟨hb1.setCell (p := ⟨g, P.length * 5 + 1, none⟩) (by have := hprow.lt g rfl; show w0.heap.size ≤ g; omega) _, (heap_setCell_other w' ⟨g, P.length * 5 + 1, none⟩ _ _ (by show w0.heap.size ≠ g; omega)).trans hbox, ?_, ?_⟩
  · rw [List.length_append]
    exact hst
  · rw [List.reverse_append]
    refine ⟨⟨hh.conf, ?_, fun _ => rfl, fun e => ?_, (hh.ba.both hg2 hm).elsew he, (hh.pa.both hg2 hm).elsew he, (hh.pb.both hg2 hm).elsew he⟩, ha.imp fun p' q' k => ?_⟩
    · show World.ownsRow _ _ _ _ _ (q.ln ++ l).length _
      rw [List.length_append]
      exact own_else hown he
    · rw [hq] at e
      cases e
    · exact ⟨k.conf, (k.ln.both hg2 hm).elsew he, (k.ba.both hg2 hm).elsew he, (k.pa.both hg2 hm).elsew he, (k.pb.both hg2 hm).elsew he⟩
theorem own_far' {w : World} {B k n sz : Nat} {t t' : TypeId} {v u : Value} {xs : List Value} {cs : Array Value} {i : Nat} (h : w.ownsRow B t sz v n xs) (_hk : Blk w k t' cs) (hB : k < B := by omega) : (w.setCell ⟨k, i, none⟩ u).ownsRow B t sz v n xs := own_far h (grown_set _ _ _ _) hB
/-- a piece comes -/
theorem Mg.put {w0 wa wb w' : World} {vp v' : Value} {P : List PV} {R : List PC} {lb lb' : Option Nat} {p : PV} {q : PC} (h : Mg w0 wa vp P R lb) (hb : Below wa.heap.size wa wb) (hq : IsHead wb (w0.heap.size + 1) lb' p q)
    (hm : lb' = none ∨ ∃ g, lb' = some g ∧ wa.heap.size ≤ g) (hown : w'.ownsRow (w0.heap.size + 1) 29 5 v' (P.length + 1) (prP P ++ prP [p])) (hg : wb.grownBy w' vp.ownBlock) :
    Mg w0 (w'.setCell ⟨w0.heap.size, 0, none⟩ v') v' (P ++ [p]) (q :: R) lb' := by
  have hk := h.keep hb
  have hpo := hk.own
  have hbl : w0.heap.size < wb.heap.size := (Array.getElem?_eq_some_iff.1 hk.box).1
  have hbox : Blk w' w0.heap.size 47 #[vp] := (hg.block w0.heap.size hbl (fun e => own_blk hpo hk.box (by decide) w0.heap.size e.symm rfl)).trans hk.box
  have e1 : Elsewhere wb w' := Elsewhere.grown hpo (by decide) hg
  have e2 : Elsewhere w' (w'.setCell ⟨w0.heap.size, 0, none⟩ v') := Elsewhere.set (not_text hbox (by decide))
  have e3 := e1.trans e2
  refine ⟨(hk.below.grown hg hk.below.size (fun k hk' => by have := hpo.lt k hk'; omega)).setCell (p := ⟨w0.heap.size, 0, none⟩) (Nat.le_refl _) _, heap_setCell_same w' w0.heap.size 0 _ _ v' hbox, ?_, ?_⟩
  · rw [List.length_append, prP_app]
    exact own_far' hown hbox
  · rw [List.reverse_append]
    exact ⟨hq.elsew e3, ((h.pcs.old hm).imp fun _ _ k => k.elsew (.of_below hb)).imp fun _ _ k => k.elsew e3⟩
end Go.Proofs.YtpnnojepbmpfiaaDoor
