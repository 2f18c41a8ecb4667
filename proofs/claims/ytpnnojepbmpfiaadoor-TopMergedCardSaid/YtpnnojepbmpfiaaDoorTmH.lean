/- TopMerged: the regions of two sides' hunks, in memory: what is sorted, and the list of regions that is built. -/
import Derived.Test.YtpnnojepbmpfiaaDoorTmG
namespace Go.Proofs.YtpnnojepbmpfiaaDoor
open Go.RowKit

theorem AreHK.perm {w : World} {E Z : List EV} (hp : E.Perm Z) : ∀ {H : List HK}, AreHK w E H → ∃ H', H.Perm H' ∧ AreHK w Z H' := by
  induction hp with
  | nil => intro H h; exact ⟨H, List.Perm.refl _, h⟩
  | cons x _ ih =>
    intro H h
    cases h with
    | cons h1 h2 =>
      obtain ⟨H', hp', ha⟩ := ih h2
      exact ⟨_ :: H', hp'.cons _, .cons h1 ha⟩
  | swap x y l =>
    intro H h
    cases h with
    | cons h1 h2 => cases h2 with
      | cons h2 h3 => exact ⟨_, List.Perm.swap _ _ _, .cons h2 (.cons h1 h3)⟩
  | trans _ _ ih1 ih2 =>
    intro H h
    obtain ⟨H1, p1, a1⟩ := ih1 h
    obtain ⟨H2, p2, a2⟩ := ih2 a1
    exact ⟨H2, p1.trans p2, a2⟩
theorem AreHK.sorted {w : World} : ∀ {E : List EV} {H : List HK}, AreHK w E H → E.Pairwise (fun a b => a.1 ≤ b.1) → (H.map HK.st).Pairwise fun a b => a.1 ≤ b.1
  | _, _, .nil, _ => List.Pairwise.nil
  | e :: E, h :: H, .cons h1 h2, hs => by
    obtain ⟨s1, s2⟩ := List.pairwise_cons.1 hs
    refine List.pairwise_cons.2 ⟨fun b hb => ?_, h2.sorted s2⟩
    obtain ⟨k, hk, rfl⟩ := List.mem_map.1 hb
    obtain ⟨i, hi, rfl⟩ := List.getElem_of_mem hk
    have hie : i < E.length := by rw [h2.len]; exact hi
    have h3 := h2.at i hie hi
    have h4 := s1 E[i] (List.getElem_mem hie)
    have h5 := h1.fr
    have h6 := h3.fr
    show h.fr ≤ H[i].fr
    omega
/-- the sort of a row of hunks that is the call's own -/
theorem sort_own {B n : Nat} {O : List EV} {vo : Value} {w0 w : World} (hB : w0.heap.size ≤ B) (hb : Below w0.heap.size w0 w) (h : w.ownsRow B 68 4 vo n (prE O)) (hl : O.length ≤ 10000) (hg : ∀ e ∈ O, goodE e) :
    Calls Tryd.prog 25 #[vo, .func (.func 26) #[] #[]] w fun e w' => e = .returned (.tuple #[]) ∧ Below w0.heap.size w0 w' ∧ ∃ Z, O.Perm Z ∧ Z.Pairwise (fun a b => a.1 ≤ b.1) ∧ KE w' vo Z := by
  have hn : n = O.length := by have := h.1; rw [prE_len] at this; omega
  rcases h.2 with ⟨rfl, h0⟩ | ⟨g, cap, cur, rfl, _⟩
  · have hO : O = [] := List.length_eq_zero_iff.1 (by omega)
    subst hO
    refine (sort_nil w).mono ?_
    rintro e w' ⟨rfl, rfl⟩
    exact ⟨rfl, hb, [], List.Perm.refl _, List.Pairwise.nil, KE.of_own h⟩
  · obtain ⟨hd, _, hgB⟩ := own_dat h
    have hgood : ∀ p ∈ tagL 0 O, goodE p.2 := fun p hp' => hg _ (tagL_ge 0 O p hp').2
    refine (sort_any g n cap (tagL 0 O) w hd (tagL_rise 0 O) hgood (by omega)).mono ?_
    rintro e w' ⟨rfl, ⟨Z, hZ, hS, hD⟩, ho⟩
    refine ⟨rfl, ho.above hb (by omega), Z.map (·.2), ?_, ?_, ?_⟩
    · have := (hZ.map (·.2)).symm
      rwa [tagL_snd] at this
    · refine List.pairwise_map.2 (hS.imp fun {a b} hab => ?_)
      rcases hab with hab | hab
      · exact Int.le_of_lt hab
      · exact Int.le_of_eq hab.1
    · have := hD.own
      rw [fl_tag] at this
      exact KE.of_own this
theorem regInfo : (Tryd.prog.info? 51).map (fun i => (i.zero, i.size, i.bytes)) = some (some (.agg #[.int .i64 0, .int .i64 0]), 2, 16) := by kernel_rfl
/-- regions that are being built -/
structure OutR (w0 : World) (vo : Value) (O : List (Nat × Nat)) (wx : World) : Prop where
  own : wx.ownsRow w0.heap.size 51 2 vo O.length (prC O)
  below : Below w0.heap.size w0 wx
theorem OutR.start {w0 wx : World} (h : Below w0.heap.size w0 wx) : OutR w0 (.slice none 0 0) [] wx := ⟨World.ownsRow_nil _ _ _ _, h⟩
theorem OutR.keep {w0 wx w' : World} {vo : Value} {O : List (Nat × Nat)} (h : OutR w0 vo O wx) (hb : Below wx.heap.size wx w') : OutR w0 vo O w' :=
  ⟨own_keep h.own hb, h.below.trans (hb.mono h.below.size)⟩
theorem prC_app (l m : List (Nat × Nat)) : prC (l ++ m) = prC l ++ prC m := by simp [prC]
theorem OutR.append {w0 wx w' : World} {vo v' : Value} {O : List (Nat × Nat)} {p : Nat × Nat} (h : OutR w0 vo O wx) (hown : w'.ownsRow w0.heap.size 51 2 v' (O.length + 1) (prC O ++ [.int .i64 (p.1 : Int), .int .i64 (p.2 : Int)])) (hg : wx.grownBy w' vo.ownBlock) : OutR w0 v' (O ++ [p]) w' := by
  refine ⟨?_, h.below.grown hg (by have := h.below.size; omega) (fun g hg => (h.own.lt g hg).1)⟩
  rw [List.length_append, prC_app]
  exact hown
theorem prC_set (L : List (Nat × Nat)) (f t t' : Nat) : (prC (L ++ [(f, t)])).set (L.length * 2 + 1) (.int .i64 (t' : Int)) = prC (L ++ [(f, t')]) := by
  rw [prC_app, prC_app, List.set_append, if_neg (by rw [prC_len]; omega), prC_len, show L.length * 2 + 1 - L.length * 2 = 1 by omega]
  rfl
theorem OutR.set {w0 wx : World} {g n cap : Nat} {L : List (Nat × Nat)} {f t : Nat} (h : OutR w0 (.slice (some ⟨g, 0, none⟩) n cap) (L ++ [(f, t)]) wx) (t' : Nat) : OutR w0 (.slice (some ⟨g, 0, none⟩) n cap) (L ++ [(f, t')]) (wx.setCell ⟨g, L.length * 2 + 1, none⟩ (.int .i64 (t' : Int))) := by
  have hn : n = (L ++ [(f, t)]).length := by
    rcases h.own.2 with ⟨h0, _⟩ | ⟨g', cap', cur, hv, _⟩
    · cases h0
    · injection hv with _ e2 _
  subst hn
  have h1 := (h.own.stored (L.length * 2 + 1) (.int .i64 (t' : Int))).1
  rw [prC_set] at h1
  refine ⟨?_, h.below.setCell (p := ⟨g, L.length * 2 + 1, none⟩) (by have := h.own.lt g rfl; exact this.1) _⟩
  rw [show (L ++ [(f, t')]).length = (L ++ [(f, t)]).length by simp]
  exact h1
theorem OutR.kp {w0 wx : World} {vo : Value} {O : List (Nat × Nat)} (h : OutR w0 vo O wx) : KP wx vo O := KP.of_own h.own
theorem OutR.last {w0 wx : World} {vo : Value} {L : List (Nat × Nat)} {f t : Nat} (h : OutR w0 vo (L ++ [(f, t)]) wx) : ∃ g cap, vo = .slice (some ⟨g, 0, none⟩) (L.length + 1) cap ∧ w0.heap.size ≤ g ∧ g < wx.heap.size ∧ wx.cell? ⟨g, L.length * 2 + 1, none⟩ = some (.int .i64 (t : Int)) ∧ wx.frozen? ⟨g, L.length * 2 + 1, none⟩ = false := by
  have ho := h.own
  rw [List.length_append] at ho
  rcases ho.2 with ⟨_, h0⟩ | ⟨g, cap, cur, rfl, hb, hg, hnc, hcm, hcs, htake⟩
  · simp at h0
  · refine ⟨g, cap, rfl, hb, (Array.getElem?_eq_some_iff.1 hg).1, ?_, by simp [World.frozen?, hg]⟩
    have h1 := ho.cells (g := g) rfl (L.length * 2 + 1) (.int .i64 (t : Int)) (by
      rw [prC_app, List.getElem?_append_right (by rw [prC_len]; omega), prC_len, show L.length * 2 + 1 - L.length * 2 = 1 by omega]
      rfl)
    rw [WideShapes.add_plain] at h1
    simpa using h1
/-- the regions so far -/
def regT (l : List (Nat × Nat)) : List (Nat × Nat) := (l.foldl regS []).reverse
theorem regT_nil : regT [] = [] := rfl
theorem regT_one (e : Nat × Nat) : regT [e] = [e] := rfl
theorem regT_snoc (l : List (Nat × Nat)) (e : Nat × Nat) : (regT l = [] → regT (l ++ [e]) = [e]) ∧ ∀ L f t, regT l = L ++ [(f, t)] → (e.1 ≤ t → regT (l ++ [e]) = L ++ [(f, max t e.2)]) ∧ (¬ e.1 ≤ t → regT (l ++ [e]) = regT l ++ [e]) := by
  unfold regT
  rw [List.foldl_append]
  obtain ⟨s, hs⟩ : ∃ s, l.foldl regS [] = s := ⟨_, rfl⟩
  rw [hs]
  refine ⟨fun h => ?_, fun L f t h => ?_⟩
  · rw [List.reverse_eq_nil_iff] at h
    subst h
    rfl
  · have h2 : s = (f, t) :: L.reverse := by
      have := congrArg List.reverse h
      simpa using this
    subst h2
    refine ⟨fun hc => ?_, fun hc => ?_⟩
    · show (regS ((f, t) :: L.reverse) e).reverse = _
      simp only [regS]
      rw [if_pos hc]
      simp
    · show (regS ((f, t) :: L.reverse) e).reverse = _
      simp only [regS]
      rw [if_neg hc]
      simp
theorem regT_len (l : List (Nat × Nat)) : (regT l).length ≤ l.length := by
  have : ∀ (l s : List (Nat × Nat)), (l.foldl regS s).length ≤ s.length + l.length := by
    intro l
    induction l with
    | nil => intro s; simp
    | cons e l ih =>
      intro s
      have := ih (regS s e)
      have h2 : (regS s e).length ≤ s.length + 1 := by
        cases s with
        | nil => simp [regS]
        | cons p s => obtain ⟨f, t⟩ := p; simp only [regS]; split <;> simp
      simp only [List.foldl_cons, List.length_cons]
      omega
  have := this l []
  simpa [regT] using this
theorem regT_snd {m : Nat} {l : List (Nat × Nat)} (h : ∀ e ∈ l, e.2 ≤ m) : ∀ e ∈ regT l, e.2 ≤ m := by
  have : ∀ (l s : List (Nat × Nat)), (∀ e ∈ l, e.2 ≤ m) → (∀ e ∈ s, e.2 ≤ m) → ∀ e ∈ l.foldl regS s, e.2 ≤ m := by
    intro l
    induction l with
    | nil => intro s _ hs; exact hs
    | cons x l ih =>
      intro s hl hs
      refine ih (regS s x) (fun e he => hl e (List.mem_cons_of_mem _ he)) ?_
      have hx := hl x List.mem_cons_self
      cases s with
      | nil => intro e he; simp only [regS, List.mem_singleton] at he; subst he; exact hx
      | cons p s =>
        obtain ⟨f, t⟩ := p
        have hp := hs (f, t) List.mem_cons_self
        intro e he
        simp only [regS] at he
        split at he
        · rcases List.mem_cons.1 he with rfl | he
          · exact Nat.max_le.2 ⟨hp, hx⟩
          · exact hs e (List.mem_cons_of_mem _ he)
        · rcases List.mem_cons.1 he with rfl | he
          · exact hx
          · exact hs e he
  intro e he
  unfold regT at he
  exact this l [] h (fun e he => by cases he) e (List.mem_reverse.1 he)
end Go.Proofs.YtpnnojepbmpfiaaDoor
