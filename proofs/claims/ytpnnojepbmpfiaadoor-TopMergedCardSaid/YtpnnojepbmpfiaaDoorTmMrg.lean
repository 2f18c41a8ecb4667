/- TopMerged, plain: merges; exchanging the sides; a side without changes; a side twice. -/
import Derived.Test.YtpnnojepbmpfiaaDoorTmLaw
namespace Go.Proofs.YtpnnojepbmpfiaaDoor

def HK.st (h : HK) : Nat × Nat := (h.fr, h.fin)
theorem HK.st_le (h : HK) : h.st.1 ≤ h.st.2 := Nat.le_add_right _ _
def leS (x y : Nat × Nat) : Bool := decide (x.1 ≤ y.1)
/-- the regions of two sides -/
def regsOf (x y : List HK) : List (Nat × Nat) := regL (((x ++ y).map HK.st).mergeSort leS)
theorem sort_le (l : List (Nat × Nat)) : (l.mergeSort leS).Pairwise fun x y => x.1 ≤ y.1 := by
  have := List.pairwise_mergeSort (le := leS) (fun a b c => by simp [leS]; omega) (fun a b => by simp [leS]; omega) l
  exact this.imp fun h => by simpa [leS] using h
theorem regs_eq {x y : List HK} {Z : List (Nat × Nat)} (hp : Z.Perm ((x ++ y).map HK.st)) (hs : Z.Pairwise fun x y => x.1 ≤ y.1) : regL Z = regsOf x y := by
  unfold regsOf regL
  rw [reg_perm Z _ [] (hp.trans (List.mergeSort_perm _ _).symm) hs (sort_le _) (fun z hz => by
    obtain ⟨h, _, rfl⟩ := List.mem_map.1 (hp.mem_iff.1 hz)
    exact h.st_le)]
theorem regs_comm (x y : List HK) : regsOf y x = regsOf x y := by
  refine regs_eq ?_ (sort_le _)
  exact (List.mergeSort_perm _ _).trans (List.perm_append_comm.map _)
/-- the hunks of a side within a region -/
def sideH (r : Nat × Nat) (x : List HK) : List HK := (x.filter fun h => decide (r.1 ≤ h.fr ∧ h.fin ≤ r.2)).map fun h => ⟨h.fr - r.1, 0, h.old, h.new⟩
def sideT (base : List ByteArray) (r : Nat × Nat) (x : List HK) : List ByteArray := repL ((base.drop r.1).take (r.2 - r.1)) 0 (sideH r x)
/-- a piece of a merge -/
structure PC where
  conf : Bool
  ln : List ByteArray
  ba : List ByteArray
  pa : List ByteArray
  pb : List ByteArray
def PC.swap (p : PC) : PC := ⟨p.conf, p.ln, p.ba, p.pb, p.pa⟩
/-- sure lines come to the pieces (the last one ahead) -/
def surR : List PC → List ByteArray → List PC
  | [], l => if l = [] then [] else [⟨false, l, [], [], []⟩]
  | p :: r, l => if l = [] then p :: r else if p.conf = true then ⟨false, l, [], [], []⟩ :: p :: r else ⟨p.conf, p.ln ++ l, p.ba, p.pa, p.pb⟩ :: r
theorem surR_swap (ps : List PC) (l : List ByteArray) : surR (ps.map PC.swap) l = (surR ps l).map PC.swap := by
  cases ps with
  | nil => simp only [surR, List.map_nil]; split <;> rfl
  | cons p r =>
    show (if l = [] then p.swap :: r.map PC.swap else if p.conf = true then _ else _) = List.map PC.swap (if l = [] then _ else if p.conf = true then _ else _)
    split
    · rfl
    · split <;> rfl
/-- a region more -/
def stepM (base : List ByteArray) (x y : List HK) (st : Nat × List PC) (r : Nat × Nat) : Nat × List PC :=
  (r.2, if sideH r y = [] ∨ sideT base r x = sideT base r y then surR (surR st.2 ((base.drop st.1).take (r.1 - st.1))) (sideT base r x)
    else if sideH r x = [] then surR (surR st.2 ((base.drop st.1).take (r.1 - st.1))) (sideT base r y)
    else ⟨true, [], (base.drop r.1).take (r.2 - r.1), sideT base r x, sideT base r y⟩ :: surR st.2 ((base.drop st.1).take (r.1 - st.1)))
/-- the pieces (the last one ahead) -/
def mergeR (base : List ByteArray) (x y : List HK) : List PC := surR ((regsOf x y).foldl (stepM base x y) (0, [])).2 (base.drop ((regsOf x y).foldl (stepM base x y) (0, [])).1)
theorem stepM_swap (base : List ByteArray) (x y : List HK) (a : Nat) (ps : List PC) (r : Nat × Nat) : stepM base y x (a, ps.map PC.swap) r = ((stepM base x y (a, ps) r).1, (stepM base x y (a, ps) r).2.map PC.swap) := by
  unfold stepM
  refine Prod.ext rfl ?_
  dsimp only
  rw [surR_swap]
  generalize surR ps ((base.drop a).take (r.1 - a)) = qs
  by_cases hT : sideT base r x = sideT base r y
  · rw [if_pos (.inr hT.symm), if_pos (.inr hT), surR_swap, hT]
  · have hT' : ¬ sideT base r y = sideT base r x := fun e => hT e.symm
    by_cases hy : sideH r y = []
    · have hx : ¬ sideH r x = [] := fun e => hT (by unfold sideT; rw [e, hy])
      rw [if_neg (by rintro (h | h); exact hx h; exact hT' h), if_pos hy, if_pos (.inl hy), surR_swap]
    · by_cases hx : sideH r x = []
      · rw [if_pos (.inl hx), if_neg (by rintro (h | h); exact hy h; exact hT h), if_pos hx, surR_swap]
      · rw [if_neg (by rintro (h | h); exact hx h; exact hT' h), if_neg hy, if_neg (by rintro (h | h); exact hy h; exact hT h), if_neg hx]
        rfl
theorem fold_swap (base : List ByteArray) (x y : List HK) : ∀ (R : List (Nat × Nat)) (a : Nat) (ps : List PC), R.foldl (stepM base y x) (a, ps.map PC.swap) = ((R.foldl (stepM base x y) (a, ps)).1, (R.foldl (stepM base x y) (a, ps)).2.map PC.swap)
  | [], _, _ => rfl
  | r :: R, a, ps => by
    rw [List.foldl_cons, List.foldl_cons, stepM_swap, fold_swap base x y R]
/-- exchanging the sides exchanges them in conflicts alone -/
theorem merge_swap (base : List ByteArray) (x y : List HK) : mergeR base y x = (mergeR base x y).map PC.swap := by
  unfold mergeR
  rw [regs_comm, show ((0, []) : Nat × List PC) = (0, ([] : List PC).map PC.swap) from rfl, fold_swap, surR_swap]
  rfl
/-- sure lines alone -/
def oneP (l : List ByteArray) : List PC := if l = [] then [] else [⟨false, l, [], [], []⟩]
theorem sur_one (l m : List ByteArray) : surR (oneP l) m = oneP (l ++ m) := by
  unfold oneP
  by_cases hl : l = []
  · subst hl
    rw [if_pos rfl]
    rfl
  · rw [if_neg hl, if_neg (by simp [hl])]
    show (if m = [] then _ else _) = _
    by_cases hm : m = []
    · rw [if_pos hm, hm, List.append_nil]
    · rw [if_neg hm]
      rfl
theorem apart_after {base : List ByteArray} : ∀ {x : List HK} {c : Nat}, Apart base c x → ∀ h ∈ x, c ≤ h.fr ∧ h.fin ≤ base.length
  | [], _, _, h, hm => by cases hm
  | k :: x, c, hA, h, hm => by
    rcases List.mem_cons.1 hm with e | hm
    · subst e; exact ⟨hA.1, hA.2.1⟩
    · have := apart_after hA.2.2.2 h hm
      have h1 := hA.1
      have h2 : k.fr ≤ k.fin := Nat.le_add_right _ _
      exact ⟨by omega, this.2⟩
/-- each region is a hunk -/
theorem regs_apart {base : List ByteArray} : ∀ {x : List HK} {c : Nat} (s : List (Nat × Nat)), Apart base c x → (∀ e ∈ s.head?, e.2 < c) → (x.map HK.st).foldl regS s = (x.map HK.st).reverse ++ s
  | [], _, _, _, _ => rfl
  | h :: x, c, s, hA, hs => by
    have h1 : regS s h.st = h.st :: s := by
      cases s with
      | nil => rfl
      | cons e s =>
        obtain ⟨f, t⟩ := e
        have := hs (f, t) rfl
        have h2 := hA.1
        show (if h.fr ≤ t then _ else _) = _
        rw [if_neg (by omega)]
    rw [List.map_cons, List.foldl_cons, h1, regs_apart (h.st :: s) hA.2.2.2 (fun e he => by
      injection he with he
      subst he
      exact Nat.lt_succ_self _), List.reverse_cons, List.append_assoc]
    rfl
theorem apart_sorted {base : List ByteArray} : ∀ {x : List HK} {c : Nat}, Apart base c x → (x.map HK.st).Pairwise fun a b => a.1 ≤ b.1
  | [], _, _ => List.Pairwise.nil
  | h :: x, c, hA => by
    refine List.pairwise_cons.2 ⟨fun b hb => ?_, apart_sorted hA.2.2.2⟩
    obtain ⟨k, hk, rfl⟩ := List.mem_map.1 hb
    have := (apart_after hA.2.2.2 k hk).1
    have h2 : h.fr ≤ h.fin := Nat.le_add_right _ _
    show h.fr ≤ k.fr
    omega
theorem regs_none {base : List ByteArray} {x : List HK} (hA : Apart base 0 x) : regsOf x [] = x.map HK.st := by
  rw [← regs_eq (Z := x.map HK.st) (by rw [List.append_nil]) (apart_sorted hA)]
  unfold regL
  rw [regs_apart [] hA (fun e he => by cases he), List.append_nil, List.reverse_reverse]
/-- each twice -/
def twice : List (Nat × Nat) → List (Nat × Nat)
  | [] => []
  | e :: l => e :: e :: twice l
theorem twice_perm : ∀ l : List (Nat × Nat), (twice l).Perm (l ++ l)
  | [] => List.Perm.refl _
  | e :: l => by
    refine (((twice_perm l).cons e).cons e).trans ?_
    refine List.Perm.cons e ?_
    exact List.perm_middle.symm
theorem twice_mem {e : Nat × Nat} : ∀ {l : List (Nat × Nat)}, e ∈ twice l → e ∈ l := fun {l} h => by
  have := (twice_perm l).mem_iff.1 h
  simpa using this
theorem twice_sorted : ∀ {l : List (Nat × Nat)}, l.Pairwise (fun a b => a.1 ≤ b.1) → (twice l).Pairwise fun a b => a.1 ≤ b.1
  | [], _ => List.Pairwise.nil
  | e :: l, h => by
    obtain ⟨h1, h2⟩ := List.pairwise_cons.1 h
    refine List.pairwise_cons.2 ⟨fun b hb => ?_, List.pairwise_cons.2 ⟨fun b hb => h1 b (twice_mem hb), twice_sorted h2⟩⟩
    rcases List.mem_cons.1 hb with e2 | hb
    · subst e2; exact Nat.le_refl _
    · exact h1 b (twice_mem hb)
theorem fold_twice : ∀ (l : List (Nat × Nat)) (s : List (Nat × Nat)), (∀ e ∈ l, e.1 ≤ e.2) → (twice l).foldl regS s = l.foldl regS s
  | [], _, _ => rfl
  | e :: l, s, h => by
    have he := h e List.mem_cons_self
    have h1 : regS (regS s e) e = regS s e := by
      obtain ⟨a, b⟩ := e
      dsimp only at he
      cases s with
      | nil => simp only [regS]; rw [if_pos he, Nat.max_self]
      | cons x s =>
        obtain ⟨f, t⟩ := x
        simp only [regS]
        by_cases ht : a ≤ t
        · rw [if_pos ht]
          simp only
          rw [if_pos (by omega)]
          congr 2
          omega
        · rw [if_neg ht]
          simp only
          rw [if_pos he, Nat.max_self]
    show (twice l).foldl regS (regS (regS s e) e) = l.foldl regS (regS s e)
    rw [h1, fold_twice l _ (fun x hx => h x (List.mem_cons_of_mem _ hx))]
theorem regs_self {base : List ByteArray} {x : List HK} (hA : Apart base 0 x) : regsOf x x = x.map HK.st := by
  rw [← regs_eq (Z := twice (x.map HK.st)) (by rw [List.map_append]; exact twice_perm _) (twice_sorted (apart_sorted hA))]
  unfold regL
  rw [fold_twice _ _ (fun e he => by
    obtain ⟨h, _, rfl⟩ := List.mem_map.1 he
    exact h.st_le), regs_apart [] hA (fun e he => by cases he), List.append_nil, List.reverse_reverse]
end Go.Proofs.YtpnnojepbmpfiaaDoor
