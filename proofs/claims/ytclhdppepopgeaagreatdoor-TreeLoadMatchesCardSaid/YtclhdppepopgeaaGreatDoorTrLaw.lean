/- The tree's lists, plain: entries of a dump, a tree of nodes, what loading does with it, and what its dump is. No program in sight. -/
import Derived.Lib.Strings
import Derived.Lib.LastIndexByte
namespace Go.Proofs.YtclhdppepopgeaaGreatDoor

/-- an entry of a dump -/
structure FE where
  path : ByteArray
  kind : Int
  mode : Int
  user : Int
  group : Int
  text : ByteArray
  changed : Int
  same : ByteArray
  deriving DecidableEq
/-- a node -/
structure ND where
  kind : Int
  mode : Int
  user : Int
  group : Int
  data : ByteArray
  changed : Int
/-- names and nodes, in the order in which they came -/
abbrev AL := List (ByteArray × Nat)
def getA : AL → ByteArray → Option Nat
  | [], _ => none
  | p :: l, k => if p.1 = k then some p.2 else getA l k
def putA : AL → ByteArray → Nat → AL
  | [], k, v => [(k, v)]
  | p :: l, k, v => if p.1 = k then (k, v) :: l else p :: putA l k v
theorem putA_new : ∀ (l : AL) (k : ByteArray) (v : Nat), getA l k = none → putA l k v = l ++ [(k, v)]
  | [], _, _, _ => rfl
  | p :: l, k, v, h => by
    unfold getA at h
    by_cases hp : p.1 = k
    · rw [if_pos hp] at h; cases h
    · rw [if_neg hp] at h
      rw [putA, if_neg hp, putA_new l k v h]
      rfl
theorem getA_mem : ∀ (l : AL) (k : ByteArray) (v : Nat), getA l k = some v → (k, v) ∈ l
  | [], _, _, h => by cases h
  | p :: l, k, v, h => by
    unfold getA at h
    by_cases hp : p.1 = k
    · rw [if_pos hp] at h
      injection h with h
      subst hp h
      exact List.mem_cons_self
    · rw [if_neg hp] at h
      exact List.mem_cons_of_mem _ (getA_mem l k v h)
/-- a tree: its nodes, the entries of each, and the paths that are known -/
structure TS where
  nds : List ND
  ents : List AL
  known : AL
def noND : ND := ⟨0, 0, 0, 0, ⟨#[]⟩, 0⟩
def TS.nd (s : TS) (i : Nat) : ND := s.nds.getD i noND
def TS.en (s : TS) (i : Nat) : AL := s.ents.getD i []
def dirK (n : ND) : Bool := n.kind == 2
def slash : ByteArray := ⟨#[47]⟩
def noneB : ByteArray := ⟨#[]⟩
/-- what a node is that an entry makes -/
def FE.node (e : FE) : ND := ⟨e.kind, e.mode, e.user, e.group, e.text, e.changed⟩
/-- where the last slash stands -/
def lastSlash (s : ByteArray) : Option Nat := if Lib.lastIndexByte s 47 < 0 then none else some (Lib.lastIndexByte s 47).toNat
/-- what a name is -/
def nameOk (s : ByteArray) : Bool := decide (1 ≤ s.size) && decide (s.size ≤ 64) && !s.data.toList.contains 0 && !s.data.toList.contains 47 && decide (s ≠ ⟨#[46]⟩) && decide (s ≠ ⟨#[46, 46]⟩)
/-- the text of a node of a kind -/
def textOk (kind : Int) (s : ByteArray) : Bool :=
  !(decide (65536 < s.size) || (kind == 3 && decide (256 < s.size))) && !(kind == 3 && (decide (s = noneB) || s.data.toList.contains 0)) && !(kind == 4 && !nameOk s) && !(kind == 2 && decide (s ≠ noneB))
/-- an entry that is right by itself -/
def rightB (e : FE) : Bool :=
  if e.same ≠ noneB then decide (e = ⟨e.path, 0, 0, 0, 0, noneB, 0, e.same⟩)
  else decide (1 ≤ e.kind) && decide (e.kind ≤ 4) && decide (0 ≤ e.user) && decide (e.user ≤ 2147483647) && decide (0 ≤ e.group) && decide (e.group ≤ 2147483647) && decide (0 ≤ e.mode) && decide (e.mode ≤ 2047) &&
    (decide (e.kind ≠ 3) || decide (e.mode = 511)) && decide (0 ≤ e.changed) && decide (e.changed ≤ 1099511627776) && textOk e.kind e.text
/-- the first entry makes the root -/
def startT (e : FE) : TS := ⟨[⟨2, e.mode, e.user, e.group, noneB, e.changed⟩], [[]], [(slash, 0)]⟩
/-- an entry is loaded -/
def stepT (s : TS) (e : FE) : Option TS :=
  match lastSlash e.path with
  | none => none
  | some k =>
    if rightB e = false then none else
    match getA s.known (if k = 0 then slash else e.path.extract 0 k) with
    | none => none
    | some d =>
      let name := e.path.extract (k + 1) e.path.size
      if dirK (s.nd d) = false then none else
      if nameOk name = false then none else
      if (getA (s.en d) name).isSome then none else
      if e.same = noneB then
        some ⟨s.nds ++ [e.node], s.ents.set d (s.en d ++ [(name, s.nds.length)]) ++ [[]], putA s.known e.path s.nds.length⟩
      else match getA s.known e.same with
        | none => none
        | some j => if dirK (s.nd j) then none else some ⟨s.nds, s.ents.set d (s.en d ++ [(name, j)]), s.known⟩
/-- all entries are loaded -/
def loadT : TS → List FE → Option TS
  | s, [] => some s
  | s, e :: l => match stepT s e with
    | none => none
    | some s' => loadT s' l
/-- the names in order -/
def leB (x y : List UInt8) : Bool := decide (x ≤ y)
def namesT (l : AL) : List ByteArray := ((l.map fun p => p.1.data.toList).mergeSort leB).map fun t => ⟨t.toArray⟩
/-- the path of a name below a path -/
def belowP (path name : ByteArray) : ByteArray := ⟨(Lib.trimSuffix path.data.toList [47] ++ 47 :: name.data.toList).toArray⟩
/-- what a dump has told, and the nodes that it has seen -/
abbrev DS := List FE × List (Nat × ByteArray)
def seenD : List (Nat × ByteArray) → Nat → Option ByteArray
  | [], _ => none
  | p :: l, i => if p.1 = i then some p.2 else seenD l i
def fullE (s : TS) (path : ByteArray) (i : Nat) : FE := ⟨path, (s.nd i).kind, (s.nd i).mode, (s.nd i).user, (s.nd i).group, (s.nd i).data, (s.nd i).changed, noneB⟩
/-- a node is told, with all below it: so deep -/
def dumpT (s : TS) : Nat → ByteArray → Nat → DS → DS
  | 0, _, _, st => st
  | f + 1, path, i, st =>
    match seenD st.2 i with
    | some first => (st.1 ++ [⟨path, 0, 0, 0, 0, noneB, 0, first⟩], st.2)
    | none => (namesT (s.en i)).foldl (fun st name => dumpT s f (belowP path name) ((getA (s.en i) name).getD 0) st) (st.1 ++ [fullE s path i], st.2 ++ [(i, path)])
/-- the dump of a tree -/
def allT (s : TS) : List FE := (dumpT s (s.nds.length + 1) slash 0 ([], [])).1
/-- what a node uses -/
def weightT (s : TS) (i : Nat) : Nat := if (s.nd i).kind = 1 ∨ (s.nd i).kind = 3 then (s.nd i).data.size else ((s.en i).map fun p => p.1.size).sum
def usedT (s : TS) : Nat := ((List.range s.nds.length).map (weightT s)).sum
/-- what loading answers -/
def aloneT (l : List FE) : Nat := (l.filter fun e => decide (e.same = noneB)).length
def answerT (l : List FE) : Int :=
  if 2001 < l.length ∨ 2000 < aloneT l then 2 else
  match l with
  | [] => 5
  | e :: r => if e.path ≠ slash ∨ e.kind ≠ 2 ∨ rightB e = false then 5 else
    match loadT (startT e) r with
    | none => 5
    | some s => if allT s = l ∧ usedT s ≤ 1048576 then 0 else 5

/-- what holds of a tree while it is loaded -/
structure WF (s : TS) (n : Nat) : Prop where
  len : s.ents.length = s.nds.length
  pos : 0 < s.nds.length
  few : s.nds.length ≤ n + 1
  ent : ∀ i, (s.en i).length ≤ n
  val : ∀ i, ∀ p ∈ s.en i, p.2 < s.nds.length ∧ p.1.size ≤ 64 ∧ 1 ≤ p.1.size
  dir : ∀ i, s.en i ≠ [] → dirK (s.nd i) = true
  down : ∀ i, ∀ p ∈ s.en i, dirK (s.nd p.2) = true → i < p.2
  kn : ∀ p ∈ s.known, p.2 < s.nds.length
  data : ∀ i, i < s.nds.length → (s.nd i).data.size ≤ 65536
  root : dirK (s.nd 0) = true
  dist : ∀ i, ((s.en i).map (·.1)).Nodup
theorem putA_mem : ∀ (l : AL) (k : ByteArray) (v : Nat), ∀ p ∈ putA l k v, p ∈ l ∨ p = (k, v)
  | [], k, v, p, h => by
    rw [putA, List.mem_singleton] at h
    exact .inr h
  | q :: l, k, v, p, h => by
    rw [putA] at h
    by_cases hq : q.1 = k
    · rw [if_pos hq] at h
      rcases List.mem_cons.1 h with h | h
      · exact .inr h
      · exact .inl (List.mem_cons_of_mem _ h)
    · rw [if_neg hq] at h
      rcases List.mem_cons.1 h with h | h
      · exact .inl (h ▸ List.mem_cons_self)
      · rcases putA_mem l k v p h with h | h
        · exact .inl (List.mem_cons_of_mem _ h)
        · exact .inr h
theorem getA_none : ∀ (l : AL) (k : ByteArray), getA l k = none → k ∉ l.map (·.1)
  | [], _, _ => by simp
  | p :: l, k, h => by
    unfold getA at h
    by_cases hp : p.1 = k
    · rw [if_pos hp] at h; cases h
    · rw [if_neg hp] at h
      rw [List.map_cons, List.mem_cons, not_or]
      exact ⟨fun e => hp e.symm, getA_none l k h⟩
theorem wf_start (e : FE) : WF (startT e) 0 := by
  refine ⟨rfl, Nat.zero_lt_one, Nat.le_refl _, fun i => ?_, fun i p hp => ?_, fun i h => ?_, fun i p hp => ?_, fun p hp => ?_, fun i hi => ?_, rfl, fun i => ?_⟩
  all_goals (have hen : ∀ i, (startT e).en i = [] := fun i => by cases i <;> simp [TS.en, startT])
  · rw [hen]; exact Nat.le_refl _
  · rw [hen] at hp; cases hp
  · exact absurd (hen i) h
  · rw [hen] at hp; cases hp
  · simp [startT] at hp ⊢; rw [hp]
  · have : i = 0 := by simp [startT] at hi; exact hi
    subst this
    simp [TS.nd, startT, noneB, ByteArray.size]
  · rw [hen]; simp
theorem nd_old (l : List ND) (m : ND) (i : Nat) (h : i < l.length) : (l ++ [m]).getD i noND = l.getD i noND := by
  simp [List.getD, List.getElem?_append_left h]
theorem nd_new (l : List ND) (m : ND) : (l ++ [m]).getD l.length noND = m := by
  simp [List.getD]
theorem en_out (s : TS) (n : Nat) (h : WF s n) (i : Nat) (hi : s.nds.length ≤ i) : s.en i = [] := by
  unfold TS.en
  rw [List.getD, List.getElem?_eq_none (by rw [h.len]; exact hi)]
  rfl
/-- an entry more in a directory -/
theorem en_set (l : List AL) (d : Nat) (x : AL) (i : Nat) (hd : d < l.length) : (l.set d x).getD i [] = if i = d then x else l.getD i [] := by
  by_cases h : i = d
  · subst h
    rw [if_pos rfl, List.getD, List.getElem?_set_self hd]
    rfl
  · rw [if_neg h, List.getD, List.getElem?_set_ne (fun e => h e.symm)]
    rfl
theorem en_set_new (l : List AL) (d : Nat) (x : AL) (i : Nat) (hd : d < l.length) : (l.set d x ++ [[]]).getD i [] = if i = d then x else l.getD i [] := by
  rcases Nat.lt_trichotomy i l.length with h | h | h
  · rw [List.getD, List.getElem?_append_left (by rw [List.length_set]; exact h)]
    exact en_set l d x i hd
  · subst h
    rw [if_neg (by omega)]
    simp [List.getD]
  · rw [if_neg (by omega)]
    simp only [List.getD]
    rw [List.getElem?_eq_none (by simp; omega), List.getElem?_eq_none (by omega)]
theorem name_size {s : ByteArray} (h : nameOk s = true) : 1 ≤ s.size ∧ s.size ≤ 64 := by
  unfold nameOk at h
  simp only [Bool.and_eq_true, decide_eq_true_eq] at h
  exact ⟨h.1.1.1.1.1, h.1.1.1.1.2⟩
theorem right_text {e : FE} (h : rightB e = true) (hs : e.same = noneB) : e.text.size ≤ 65536 := by
  unfold rightB at h
  rw [if_neg (by rw [hs]; simp)] at h
  simp only [Bool.and_eq_true] at h
  have h2 := h.2
  unfold textOk at h2
  simp only [Bool.and_eq_true, Bool.not_eq_true', Bool.or_eq_false_iff, decide_eq_false_iff_not] at h2
  have := h2.1.1.1.1
  omega
theorem wf_step {s s' : TS} {n : Nat} {e : FE} (h : WF s n) (hs : stepT s e = some s') : WF s' (n + 1) := by
  unfold stepT at hs
  cases hk : lastSlash e.path with
  | none => rw [hk] at hs; cases hs
  | some k =>
    rw [hk] at hs
    dsimp only at hs
    by_cases hr : rightB e = false
    · rw [if_pos hr] at hs; cases hs
    rw [if_neg hr] at hs
    have hrt : rightB e = true := by simpa using hr
    cases hd : getA s.known (if k = 0 then slash else e.path.extract 0 k) with
    | none => rw [hd] at hs; cases hs
    | some d =>
      rw [hd] at hs
      dsimp only at hs
      have hdl : d < s.nds.length := h.kn _ (getA_mem _ _ _ hd)
      have hdl2 : d < s.ents.length := by rw [h.len]; exact hdl
      generalize hnm : e.path.extract (k + 1) e.path.size = name at hs
      by_cases hdir : dirK (s.nd d) = false
      · rw [if_pos hdir] at hs; cases hs
      rw [if_neg hdir] at hs
      have hdt : dirK (s.nd d) = true := by simpa using hdir
      by_cases hno : nameOk name = false
      · rw [if_pos hno] at hs; cases hs
      rw [if_neg hno] at hs
      obtain ⟨hn1, hn2⟩ := name_size (s := name) (by simpa using hno)
      by_cases hg : (getA (s.en d) name).isSome = true
      · rw [if_pos hg] at hs; cases hs
      rw [if_neg hg] at hs
      have hgn : getA (s.en d) name = none := by
        cases hq : getA (s.en d) name
        · rfl
        · rw [hq] at hg; exact absurd rfl hg
      have hdist : ∀ j : Nat, ((s.en d ++ [(name, j)]).map (fun p : ByteArray × Nat => p.1)).Nodup := fun j => by
        rw [List.map_append]
        refine List.nodup_append.2 ⟨h.dist d, by simp, fun x hx y hy => ?_⟩
        simp at hy
        subst hy
        exact fun e => getA_none _ _ hgn (e ▸ hx)
      by_cases hsm : e.same = noneB
      · rw [if_pos hsm] at hs
        injection hs with hs
        subst hs
        have hnd : ∀ i, i < s.nds.length → TS.nd ⟨s.nds ++ [e.node], s.ents.set d (s.en d ++ [(name, s.nds.length)]) ++ [[]], putA s.known e.path s.nds.length⟩ i = s.nd i := fun i hi => nd_old _ _ _ hi
        have hen : ∀ i, TS.en ⟨s.nds ++ [e.node], s.ents.set d (s.en d ++ [(name, s.nds.length)]) ++ [[]], putA s.known e.path s.nds.length⟩ i = if i = d then s.en d ++ [(name, s.nds.length)] else s.en i := fun i => en_set_new _ _ _ _ hdl2
        have hll : (s.nds ++ [e.node]).length = s.nds.length + 1 := by simp
        refine ⟨by simp [h.len], by simp, by simp; have := h.few; omega, fun i => ?_, fun i p hp => ?_, fun i hne => ?_, fun i p hp hpd => ?_, fun p hp => ?_, fun i hi => ?_, ?_, fun i => ?_⟩
        · rw [hen]
          split
          · rw [List.length_append]; have := h.ent d; simp; omega
          · have := h.ent i; omega
        · rw [hen] at hp
          show p.2 < (s.nds ++ [e.node]).length ∧ _
          rw [hll]
          by_cases hi : i = d
          · rw [if_pos hi] at hp
            rcases List.mem_append.1 hp with hp | hp
            · have := h.val d p hp; exact ⟨by omega, this.2⟩
            · simp at hp; subst hp; exact ⟨by simp, hn2, hn1⟩
          · rw [if_neg hi] at hp
            have := h.val i p hp
            exact ⟨by omega, this.2⟩
        · rw [hen] at hne
          by_cases hi : i = d
          · rw [hi, hnd d hdl]; exact hdt
          · rw [if_neg hi] at hne
            have hil : i < s.nds.length := by
              rcases Nat.lt_or_ge i s.nds.length with hx | hx
              · exact hx
              · exact absurd (en_out s n h i hx) hne
            rw [hnd i hil]
            exact h.dir i hne
        · rw [hen] at hp
          by_cases hi : i = d
          · rw [if_pos hi] at hp
            rcases List.mem_append.1 hp with hp | hp
            · have hv := (h.val d p hp).1
              rw [hnd _ hv] at hpd
              rw [hi]
              exact h.down d p hp hpd
            · simp at hp; subst hp; rw [hi]; exact hdl
          · rw [if_neg hi] at hp
            have hv := (h.val i p hp).1
            rw [hnd _ hv] at hpd
            exact h.down i p hp hpd
        · show p.2 < (s.nds ++ [e.node]).length
          rw [hll]
          rcases putA_mem _ _ _ p hp with hp | hp
          · have := h.kn p hp; omega
          · rw [hp]; simp
        · rw [hll] at hi
          by_cases hi2 : i < s.nds.length
          · rw [hnd i hi2]; exact h.data i hi2
          · obtain rfl : i = s.nds.length := by omega
            have : TS.nd ⟨s.nds ++ [e.node], s.ents.set d (s.en d ++ [(name, s.nds.length)]) ++ [[]], putA s.known e.path s.nds.length⟩ s.nds.length = e.node := nd_new _ _
            rw [this]
            exact right_text hrt hsm
        · rw [hnd 0 h.pos]; exact h.root
        · rw [hen]
          split
          · exact hdist _
          · exact h.dist i
      · rw [if_neg hsm] at hs
        cases hj : getA s.known e.same with
        | none => rw [hj] at hs; cases hs
        | some j =>
          rw [hj] at hs
          dsimp only at hs
          by_cases hjd : dirK (s.nd j) = true
          · rw [if_pos hjd] at hs; cases hs
          rw [if_neg hjd] at hs
          injection hs with hs
          subst hs
          have hjl : j < s.nds.length := h.kn _ (getA_mem _ _ _ hj)
          have hen : ∀ i, TS.en ⟨s.nds, s.ents.set d (s.en d ++ [(name, j)]), s.known⟩ i = if i = d then s.en d ++ [(name, j)] else s.en i := fun i => en_set _ _ _ _ hdl2
          refine ⟨by simp [h.len], h.pos, by have := h.few; show s.nds.length ≤ _; omega, fun i => ?_, fun i p hp => ?_, fun i hne => ?_, fun i p hp hpd => ?_, h.kn, h.data, h.root, fun i => ?_⟩
          · rw [hen]
            split
            · rw [List.length_append]; have := h.ent d; simp; omega
            · have := h.ent i; omega
          · rw [hen] at hp
            by_cases hi : i = d
            · rw [if_pos hi] at hp
              rcases List.mem_append.1 hp with hp | hp
              · exact h.val d p hp
              · simp at hp; subst hp; exact ⟨hjl, hn2, hn1⟩
            · rw [if_neg hi] at hp
              exact h.val i p hp
          · rw [hen] at hne
            by_cases hi : i = d
            · rw [hi]; exact hdt
            · rw [if_neg hi] at hne
              exact h.dir i hne
          · rw [hen] at hp
            by_cases hi : i = d
            · rw [if_pos hi] at hp
              rcases List.mem_append.1 hp with hp | hp
              · rw [hi]; exact h.down d p hp hpd
              · simp at hp; subst hp; exact absurd hpd hjd
            · rw [if_neg hi] at hp
              exact h.down i p hp hpd
          · rw [hen]
            split
            · exact hdist _
            · exact h.dist i
end Go.Proofs.YtclhdppepopgeaaGreatDoor
