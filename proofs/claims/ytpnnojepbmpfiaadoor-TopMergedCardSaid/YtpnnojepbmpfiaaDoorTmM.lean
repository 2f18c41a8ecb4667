/- TopMerged: what the walk of Merge wants: regions are apart; a list of pieces in memory. -/
import Derived.Test.YtpnnojepbmpfiaaDoorTmL
namespace Go.Proofs.YtpnnojepbmpfiaaDoor
open Go.RowKit

/-- regions that rise within n lines, from c on -/
def RegsOK (n : Nat) : Nat → List (Nat × Nat) → Prop
  | _, [] => True
  | c, r :: L => c ≤ r.1 ∧ r.1 ≤ r.2 ∧ r.2 ≤ n ∧ RegsOK n r.2 L
theorem RegsOK.more {n : Nat} : ∀ {L : List (Nat × Nat)} {c f t t' : Nat}, RegsOK n c (L ++ [(f, t)]) → t ≤ t' → t' ≤ n → RegsOK n c (L ++ [(f, t')])
  | [], _, _, _, _, h, h1, h2 => ⟨h.1, Nat.le_trans h.2.1 h1, h2, trivial⟩
  | _ :: _, _, _, _, _, h, h1, h2 => ⟨h.1, h.2.1, h.2.2.1, h.2.2.2.more h1 h2⟩
theorem RegsOK.snoc {n : Nat} : ∀ {L : List (Nat × Nat)} {c f t : Nat} {e : Nat × Nat}, RegsOK n c (L ++ [(f, t)]) → t ≤ e.1 → e.1 ≤ e.2 → e.2 ≤ n → RegsOK n c ((L ++ [(f, t)]) ++ [e])
  | [], _, _, _, _, h, h1, h2, h3 => ⟨h.1, h.2.1, h.2.2.1, h1, h2, h3, trivial⟩
  | _ :: _, _, _, _, _, h, h1, h2, h3 => ⟨h.1, h.2.1, h.2.2.1, h.2.2.2.snoc h1 h2 h3⟩
theorem regT_ok {n : Nat} (l : List (Nat × Nat)) (h : ∀ e ∈ l, e.1 ≤ e.2 ∧ e.2 ≤ n) : RegsOK n 0 (regT l) := by
  have : ∀ m (l : List (Nat × Nat)), l.length = m → (∀ e ∈ l, e.1 ≤ e.2 ∧ e.2 ≤ n) → RegsOK n 0 (regT l) := by
    intro m
    induction m with
    | zero =>
      intro l hl _
      obtain rfl : l = [] := List.length_eq_zero_iff.1 hl
      trivial
    | succ m ih =>
      intro l hl h
      rcases List.eq_nil_or_concat l with rfl | ⟨l0, e, he⟩
      · trivial
      · have hle : l = l0 ++ [e] := by rw [he, List.concat_eq_append]
        subst hle
        have h0 := ih l0 (by simpa using hl) (fun x hx => h x (List.mem_append_left _ hx))
        obtain ⟨he1, he2⟩ := h e (by simp)
        obtain ⟨s1, s2⟩ := regT_snoc l0 e
        rcases List.eq_nil_or_concat (regT l0) with hR | ⟨L, ⟨f, t⟩, hR0⟩
        · rw [s1 hR]
          exact ⟨Nat.zero_le _, he1, he2, trivial⟩
        · have hR : regT l0 = L ++ [(f, t)] := by rw [hR0, List.concat_eq_append]
          obtain ⟨s3, s4⟩ := s2 L f t hR
          rw [hR] at h0
          by_cases hc : e.1 ≤ t
          · rw [s3 hc]
            have ht : t ≤ n := by
              have : ∀ (L : List (Nat × Nat)) c, RegsOK n c (L ++ [(f, t)]) → t ≤ n := by
                intro L
                induction L with
                | nil => intro c h; exact h.2.2.1
                | cons r L ih => intro c h; exact ih _ h.2.2.2
              exact this L 0 h0
            exact h0.more (Nat.le_max_left _ _) (Nat.max_le.2 ⟨ht, he2⟩)
          · rw [s4 hc, hR]
            exact h0.snoc (by omega) he1 he2
  exact this l.length l rfl h
theorem regsOf_ok {base : List ByteArray} {x y : List HK} (hx : Apart base 0 x) (hy : Apart base 0 y) : RegsOK base.length 0 (regsOf x y) := by
  unfold regsOf
  refine regT_ok _ fun e he => ?_
  obtain ⟨h, hh, rfl⟩ := List.mem_map.1 ((List.mergeSort_perm _ _).mem_iff.1 he)
  refine ⟨h.st_le, ?_⟩
  rcases List.mem_append.1 hh with hh | hh
  · exact (apart_after hx h hh).2
  · exact (apart_after hy h hh).2
theorem regsOf_len (x y : List HK) : (regsOf x y).length ≤ x.length + y.length := by
  unfold regsOf
  have := regT_len (((x ++ y).map HK.st).mergeSort leS)
  rw [List.length_mergeSort, List.length_map, List.length_append] at this
  exact this
theorem apart_len {base : List ByteArray} : ∀ {x : List HK} {c : Nat}, Apart base c x → c ≤ base.length + 1 → x.length + c ≤ base.length + 1
  | [], c, _, hc => by simpa using hc
  | h :: x, c, hA, _ => by
    have h1 := hA.1
    have h2 : h.fr ≤ h.fin := Nat.le_add_right _ _
    have h3 := hA.2.1
    have := apart_len hA.2.2.2 (by omega)
    rw [List.length_cons]
    omega
/-- a piece in memory -/
structure IsPC (w : World) (p : PV) (q : PC) : Prop where
  conf : p.1 = q.conf
  ln : SL w (sv p.2.1) q.ln
  ba : SL w (sv p.2.2.1) q.ba
  pa : SL w (sv p.2.2.2.1) q.pa
  pb : SL w (sv p.2.2.2.2) q.pb
theorem IsPC.keep {w w' : World} {p : PV} {q : PC} (h : IsPC w p q) (hb : Below w.heap.size w w') : IsPC w' p q := ⟨h.conf, h.ln.keep hb, h.ba.keep hb, h.pa.keep hb, h.pb.keep hb⟩
inductive ArePC (w : World) : List PV → List PC → Prop
  | nil : ArePC w [] []
  | cons {p : PV} {q : PC} {P : List PV} {R : List PC} : IsPC w p q → ArePC w P R → ArePC w (p :: P) (q :: R)
theorem ArePC.len {w : World} : ∀ {P : List PV} {R : List PC}, ArePC w P R → P.length = R.length
  | _, _, .nil => rfl
  | _, _, .cons _ t => by simp [t.len]
theorem ArePC.keep {w w' : World} (hb : Below w.heap.size w w') : ∀ {P : List PV} {R : List PC}, ArePC w P R → ArePC w' P R
  | _, _, .nil => .nil
  | _, _, .cons h t => .cons (h.keep hb) (t.keep hb)
theorem ArePC.app {w : World} : ∀ {P P' : List PV} {R R' : List PC}, ArePC w P R → ArePC w P' R' → ArePC w (P ++ P') (R ++ R')
  | _, _, _, _, .nil, g => g
  | _, _, _, _, .cons h t, g => .cons h (t.app g)
theorem ArePC.rev {w : World} : ∀ {P : List PV} {R : List PC}, ArePC w P R → ArePC w P.reverse R.reverse
  | _, _, .nil => .nil
  | _, _, .cons h t => by
    rw [List.reverse_cons, List.reverse_cons]
    exact t.rev.app (.cons h .nil)
theorem ArePC.at {w : World} : ∀ {P : List PV} {R : List PC}, ArePC w P R → ∀ (i : Nat) (hp : i < P.length) (hr : i < R.length), IsPC w P[i] R[i]
  | _, _, .cons h _, 0, _, _ => h
  | _, _, .cons _ t, i + 1, hp, hr => t.at i (by simpa using hp) (by simpa using hr)
/-- v is a slice of pieces -/
def PcL (w : World) (v : Value) (Q : List PC) : Prop :=
  ∃ P A c, v = .slice A P.length c ∧ P.length ≤ c ∧ (A = none → c = 0) ∧ ArePC w P Q ∧ (0 < P.length → ∃ b, A = some ⟨b, 0, none⟩ ∧ b < w.heap.size ∧ ∀ j (h : j < P.length), w.cell? ⟨b, j * 5, none⟩ = some (.bool P[j].1) ∧ w.cell? ⟨b, j * 5 + 1, none⟩ = some (sv P[j].2.1) ∧ w.cell? ⟨b, j * 5 + 2, none⟩ = some (sv P[j].2.2.1) ∧ w.cell? ⟨b, j * 5 + 3, none⟩ = some (sv P[j].2.2.2.1) ∧ w.cell? ⟨b, j * 5 + 4, none⟩ = some (sv P[j].2.2.2.2))
theorem PcL.keep {w w' : World} {v : Value} {Q : List PC} (h : PcL w v Q) (hb : Below w.heap.size w w') : PcL w' v Q := by
  obtain ⟨P, A, c, e, hc, hA, ha, h⟩ := h
  refine ⟨P, A, c, e, hc, hA, ha.keep hb, fun h0 => ?_⟩
  obtain ⟨b, e2, hl, h2⟩ := h h0
  refine ⟨b, e2, Nat.lt_of_lt_of_le hl hb.size, fun j hj => ?_⟩
  obtain ⟨q0, q1, q2, q3, q4⟩ := h2 j hj
  have hc : ∀ i, w'.cell? ⟨b, i, none⟩ = w.cell? ⟨b, i, none⟩ := fun i => hb.cell (p := ⟨b, i, none⟩) hl
  exact ⟨(hc _).trans q0, (hc _).trans q1, (hc _).trans q2, (hc _).trans q3, (hc _).trans q4⟩
theorem IsHead.is {w : World} {B : Nat} {lb : Option Nat} {p : PV} {q : PC} (h : IsHead w B lb p q) : IsPC w p q := ⟨h.conf, SL.of_own h.ln, SL.of_own h.ba.own, SL.of_own h.pa.own, SL.of_own h.pb.own⟩
theorem IsF.is {w : World} {B : Nat} {lb : Option Nat} {p : PV} {q : PC} (h : IsF w B lb p q) : IsPC w p q := ⟨h.conf, SL.of_own h.ln.own, SL.of_own h.ba.own, SL.of_own h.pa.own, SL.of_own h.pb.own⟩
theorem AreF.are {w : World} {B : Nat} {lb : Option Nat} : ∀ {P : List PV} {R : List PC}, AreF w B lb P R → ArePC w P R
  | _, _, .nil => .nil
  | _, _, .cons h t => .cons h.is t.are
theorem RevF.are {w : World} {B : Nat} {lb : Option Nat} : ∀ {P : List PV} {R : List PC}, RevF w B lb P R → ArePC w P R
  | [], [], _ => .nil
  | _ :: _, _ :: _, h => .cons h.1.is h.2.are
theorem Mg.pcl {w0 wx : World} {vp : Value} {P : List PV} {R : List PC} {lb : Option Nat} (h : Mg w0 wx vp P R lb) : PcL wx vp R.reverse := by
  have ha := h.pcs.are.rev
  rw [List.reverse_reverse] at ha
  rcases h.own.2 with ⟨rfl, h0⟩ | ⟨g, cap, cur, rfl, hb, hg, hnc, hcm, hcs, htake⟩
  · obtain rfl : P = [] := List.length_eq_zero_iff.1 h0
    exact ⟨[], none, 0, rfl, Nat.le_refl _, fun _ => rfl, ha, fun h0 => absurd h0 (by simp)⟩
  · refine ⟨P, _, cap, rfl, hnc, fun e => (by cases e), ha, fun _ => ⟨g, rfl, (Array.getElem?_eq_some_iff.1 hg).1, fun j hj => ?_⟩⟩
    obtain ⟨a0, a1, a2, a3, a4⟩ := prP_at P j hj
    have h0 := h.own.cells (g := g) rfl (j * 5) _ a0
    have h1 := h.own.cells (g := g) rfl (j * 5 + 1) _ a1
    have h2 := h.own.cells (g := g) rfl (j * 5 + 2) _ a2
    have h3 := h.own.cells (g := g) rfl (j * 5 + 3) _ a3
    have h4 := h.own.cells (g := g) rfl (j * 5 + 4) _ a4
    rw [WideShapes.add_plain, Nat.zero_add] at h0 h1 h2 h3 h4
    exact ⟨h0, h1, h2, h3, h4⟩
/-- the state of the merge behind some regions -/
def foldM (base : List ByteArray) (x y : List HK) (l : List (Nat × Nat)) : Nat × List PC := l.foldl (stepM base x y) (0, [])
theorem foldM_snoc (base : List ByteArray) (x y : List HK) (l : List (Nat × Nat)) (r : Nat × Nat) : foldM base x y (l ++ [r]) = stepM base x y (foldM base x y l) r := by
  unfold foldM
  rw [List.foldl_append]
  rfl
end Go.Proofs.YtpnnojepbmpfiaaDoor
