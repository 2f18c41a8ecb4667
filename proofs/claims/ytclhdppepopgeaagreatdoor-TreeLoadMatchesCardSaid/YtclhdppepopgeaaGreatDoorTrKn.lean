/- The tree's lists, plain: no path is known twice. -/
import Derived.Test.YtclhdppepopgeaaGreatDoorTrLen
namespace Go.Proofs.YtclhdppepopgeaaGreatDoor

def upP (p : ByteArray) (k : Nat) : ByteArray := if k = 0 then slash else p.extract 0 k
def lastP (p : ByteArray) (k : Nat) : ByteArray := p.extract (k + 1) p.size
/-- each path that is known is the root, or stands in the directory that its beginning names -/
def KI (s : TS) : Prop := ∀ p ∈ s.known, p.1 = slash ∨ ∃ k d, lastSlash p.1 = some k ∧ getA s.known (upP p.1 k) = some d ∧ (getA (s.en d) (lastP p.1 k)).isSome = true
theorem ki_start (e : FE) : KI (startT e) := fun p hp => by
  simp [startT] at hp
  subst hp
  exact .inl rfl
theorem getA_app : ∀ (l m : AL) (k : ByteArray) (d : Nat), getA l k = some d → getA (l ++ m) k = some d
  | [], _, _, _, h => by cases h
  | p :: l, m, k, d, h => by
    unfold getA at h
    rw [List.cons_append, getA]
    by_cases hp : p.1 = k
    · rw [if_pos hp] at h ⊢; exact h
    · rw [if_neg hp] at h ⊢; exact getA_app l m k d h
theorem getA_none_app : ∀ (l : AL) (k k2 : ByteArray) (d : Nat), getA l k = none → getA (l ++ [(k2, d)]) k = if k2 = k then some d else none
  | [], _, _, _, _ => by rw [List.nil_append, getA, getA]
  | p :: l, k, k2, d, h => by
    unfold getA at h
    rw [List.cons_append, getA]
    by_cases hp : p.1 = k
    · rw [if_pos hp] at h; cases h
    · rw [if_neg hp] at h ⊢; exact getA_none_app l k k2 d h
theorem name_slash : nameOk (lastP slash 0) = false := by decide +kernel
theorem last_slash : lastSlash slash = some 0 := by decide +kernel
/-- a new path is not known -/
theorem ki_new {s : TS} (h : KI s) (path : ByteArray) (k d : Nat) (hk : lastSlash path = some k) (hd : getA s.known (upP path k) = some d) (hn : nameOk (lastP path k) = true) (hg : getA (s.en d) (lastP path k) = none) : getA s.known path = none := by
  cases hq : getA s.known path with
  | none => rfl
  | some j =>
    rcases h _ (getA_mem _ _ _ hq) with h1 | ⟨k2, d2, h1, h2, h3⟩
    · replace h1 : path = slash := h1
      rw [h1, last_slash] at hk
      injection hk with hk
      rw [h1, ← hk, name_slash] at hn
      cases hn
    · replace h1 : lastSlash path = some k2 := h1
      rw [hk] at h1
      injection h1 with h1
      subst h1
      replace h2 : getA s.known (upP path k) = some d2 := h2
      rw [hd] at h2
      injection h2 with h2
      subst h2
      replace h3 : (getA (s.en d) (lastP path k)).isSome = true := h3
      rw [hg] at h3
      cases h3
/-- what a step is, part by part -/
theorem step_no {s : TS} {e : FE} (h : lastSlash e.path = none) : stepT s e = none := by unfold stepT; rw [h]
theorem step_of {s : TS} {e : FE} {k : Nat} (h : lastSlash e.path = some k) : stepT s e =
    if rightB e = false then none else
    match getA s.known (upP e.path k) with
    | none => none
    | some d =>
      if dirK (s.nd d) = false then none else
      if nameOk (lastP e.path k) = false then none else
      if (getA (s.en d) (lastP e.path k)).isSome then none else
      if e.same = noneB then
        some ⟨s.nds ++ [e.node], s.ents.set d (s.en d ++ [(lastP e.path k, s.nds.length)]) ++ [[]], putA s.known e.path s.nds.length⟩
      else match getA s.known e.same with
        | none => none
        | some j => if dirK (s.nd j) then none else some ⟨s.nds, s.ents.set d (s.en d ++ [(lastP e.path k, j)]), s.known⟩ := by
  unfold stepT
  rw [h]
  rfl
theorem en_isSome {s s' : TS} {d : Nat} {x : ByteArray} (hs : ∃ j, ∃ _ : d < s.nds.length, s'.en = fun i => if i = d then s.en d ++ [(x, j)] else s.en i) (i : Nat) (y : ByteArray) (h : (getA (s.en i) y).isSome = true) : (getA (s'.en i) y).isSome = true := by
  obtain ⟨j, _, hs⟩ := hs
  rw [hs]
  dsimp only
  by_cases hi : i = d
  · rw [if_pos hi]
    rw [hi] at h
    cases hq : getA (s.en d) y with
    | none => rw [hq] at h; cases h
    | some q => rw [getA_app _ _ _ _ hq]; rfl
  · rw [if_neg hi]; exact h
theorem ki_step {s s' : TS} {N : Nat} {e : FE} (hw : WF s N) (h : KI s) (hs : stepT s e = some s') : KI s' := by
  cases hk : lastSlash e.path with
  | none => rw [step_no hk] at hs; cases hs
  | some k =>
    rw [step_of hk] at hs
    by_cases hr : rightB e = false
    · rw [if_pos hr] at hs; cases hs
    rw [if_neg hr] at hs
    cases hd : getA s.known (upP e.path k) with
    | none => rw [hd] at hs; cases hs
    | some d =>
      rw [hd] at hs
      dsimp only at hs
      have hdl : d < s.nds.length := hw.kn _ (getA_mem _ _ _ hd)
      have hdl2 : d < s.ents.length := by rw [hw.len]; exact hdl
      by_cases hdir : dirK (s.nd d) = false
      · rw [if_pos hdir] at hs; cases hs
      rw [if_neg hdir] at hs
      by_cases hno : nameOk (lastP e.path k) = false
      · rw [if_pos hno] at hs; cases hs
      rw [if_neg hno] at hs
      have hno2 : nameOk (lastP e.path k) = true := by simpa using hno
      by_cases hg : (getA (s.en d) (lastP e.path k)).isSome = true
      · rw [if_pos hg] at hs; cases hs
      rw [if_neg hg] at hs
      have hgn : getA (s.en d) (lastP e.path k) = none := by
        cases hq : getA (s.en d) (lastP e.path k)
        · rfl
        · rw [hq] at hg; exact absurd rfl hg
      by_cases hsm : e.same = noneB
      · rw [if_pos hsm] at hs
        injection hs with hs
        have hnew := ki_new h e.path k d hk hd hno2 hgn
        rw [putA_new _ _ _ hnew] at hs
        have hen : s'.en = fun i => if i = d then s.en d ++ [(lastP e.path k, s.nds.length)] else s.en i := by
          funext i
          rw [← hs]
          exact en_set_new _ _ _ _ hdl2
        have hkn : s'.known = s.known ++ [(e.path, s.nds.length)] := by rw [← hs]
        intro p hp
        rw [hkn] at hp ⊢
        rcases List.mem_append.1 hp with hp | hp
        · rcases h p hp with h1 | ⟨k2, d2, h1, h2, h3⟩
          · exact .inl h1
          · exact .inr ⟨k2, d2, h1, getA_app _ _ _ _ h2, en_isSome ⟨_, hdl, hen⟩ _ _ h3⟩
        · simp at hp
          subst hp
          refine .inr ⟨k, d, hk, getA_app _ _ _ _ hd, ?_⟩
          rw [hen]
          dsimp only
          rw [if_pos rfl, getA_none_app _ _ _ _ hgn, if_pos rfl]
          rfl
      · rw [if_neg hsm] at hs
        cases hj : getA s.known e.same with
        | none => rw [hj] at hs; cases hs
        | some j =>
          rw [hj] at hs
          dsimp only at hs
          by_cases hjd : dirK (s.nd j) = true
          · rw [if_pos hjd] at hs; cases hs
          rw [if_neg hjd] at hs
          injection hs with hs
          have hen : s'.en = fun i => if i = d then s.en d ++ [(lastP e.path k, j)] else s.en i := by
            funext i
            rw [← hs]
            exact en_set _ _ _ _ hdl2
          have hkn : s'.known = s.known := by rw [← hs]
          intro p hp
          rw [hkn] at hp ⊢
          rcases h p hp with h1 | ⟨k2, d2, h1, h2, h3⟩
          · exact .inl h1
          · exact .inr ⟨k2, d2, h1, h2, en_isSome ⟨_, hdl, hen⟩ _ _ h3⟩
end Go.Proofs.YtclhdppepopgeaaGreatDoor
