/- The tree's lists, the reference: LoadFiles. (Printed by tools/gtfload.py.) -/
import Derived.Test.YtclhdppepopgeaaGreatDoorTfDump
import Derived.Test.YtclhdppepopgeaaGreatDoorTfUse
import Derived.Test.YtclhdppepopgeaaGreatDoorTfNew
import Derived.Test.YtclhdppepopgeaaGreatDoorTfName
import Derived.Test.YtclhdppepopgeaaGreatDoorTfNeq
import Derived.Test.YtclhdppepopgeaaGreatDoorTfTail
import Derived.Test.YtclhdppepopgeaaGreatDoorTrLoadAll
namespace Go.Proofs.YtclhdppepopgeaaGreatDoor
open Go.RowKit

theorem NewR.keep {w w' : World} {B t mn x e vb vo vc : Nat} {d : ND} {ch : Int} (h : NewR w B t mn x e vb vo vc d ch) (hb : Below w.heap.size w w') : NewR w' B t mn x e vb vo vc d ch := by
  obtain ⟨cs, h1, h2⟩ := h.volr
  exact ⟨(hb.block t (Array.getElem?_eq_some_iff.1 h.tree).1).trans h.tree, h.nodes.keep hb, (rnodeOk vo).stay h.node (hb.block _ h.node.cellar.lt), h.ent.keep hb, ⟨cs, (hb.block vb (Array.getElem?_eq_some_iff.1 h1).1).trans h1, h2⟩, (hb.block vo (Array.getElem?_eq_some_iff.1 h.volb).1).trans h.volb, h.vcp, h.bt, h.bm, h.bx, h.be, h.bv, h.bo, h.em⟩
/-- the root is another node -/
theorem NewR.root {w w' : World} {B t mn x e vb vo vc : Nat} {d d' : ND} {ch : Int} (h : NewR w B t mn x e vb vo vc d ch) (hF : Fx (fun b => b = x) w w') (hn : RNode vo w' x 0 d' (.map (some e))) : NewR w' B t mn x e vb vo vc d' ch := by
  obtain ⟨cs, h1, h2⟩ := h.volr
  obtain ⟨_, _, hx⟩ := h.node
  have hne : ∀ {b : Nat} {cs : Array Value} {T : TypeId}, w.heap[b]? = some (.cells cs T (0, 0)) → T ≠ 55 → b ≠ x := fun hb hT e => by
    rw [e, hx] at hb
    injection hb with hb
    injection hb with _ hb
    exact hT hb.symm
  exact ⟨hF.at h.tree (hne h.tree (by decide)), hF.map h.nodes (fun e => map_ne h.nodes ⟨_, _, hx⟩ e.symm), hn, hF.map h.ent (fun e => map_ne h.ent ⟨_, _, hx⟩ e.symm), ⟨cs, hF.at h1 (hne h1 (by decide)), h2⟩, hF.at h.volb (hne h.volb (by decide)), h.vcp, h.bt, h.bm, h.bx, h.be, h.bv, h.bo, h.em⟩
theorem NewR.change {w : World} {B t mn x e vb vo vc : Nat} {d : ND} {ch : Int} (h : NewR w B t mn x e vb vo vc d ch) (z : Int) : NewR (w.setCell ⟨t, 2, none⟩ (.int .i64 z)) B t mn x e vb vo vc d z := by
  have hF : Fx (fun b => b = t) w (w.setCell ⟨t, 2, none⟩ (.int .i64 z)) := Fx.setCell (S := fun b => b = t) w rfl 2 _
  have ht := h.tree
  have hne : ∀ {b : Nat} {cs : Array Value} {T : TypeId}, w.heap[b]? = some (.cells cs T (0, 0)) → T ≠ 52 → b ≠ t := fun hb hT e => by
    rw [e, ht] at hb
    injection hb with hb
    injection hb with _ hb
    exact hT hb.symm
  obtain ⟨cs, h1, h2⟩ := h.volr
  obtain ⟨a1, a2, hx⟩ := h.node
  exact ⟨heap_setCell_same w t 2 _ _ _ ht, hF.map h.nodes (fun e => map_ne h.nodes ⟨_, _, ht⟩ e.symm), ⟨a1, a2, hF.at hx (hne hx (by decide))⟩, hF.map h.ent (fun e => map_ne h.ent ⟨_, _, ht⟩ e.symm), ⟨cs, hF.at h1 (hne h1 (by decide)), h2⟩, hF.at h.volb (hne h.volb (by decide)), h.vcp, h.bt, h.bm, h.bx, h.be, h.bv, h.bo, h.em⟩
/-- the first tree -/
theorem NewR.rl {w : World} {B t mn x e0 vb vo vc kn : Nat} {e : FE} {ch : Int} (h : NewR w B t mn x e0 vb vo vc ⟨2, e.mode, e.user, e.group, noneB, e.changed⟩ ch) (hk : MapAt w kn (sL [(slash, ptr x)])) (hkm : kn ≠ mn) (hke : e0 ≠ kn) (hbk : B ≤ kn) : RL w B (startT e) t mn kn (fun _ => x) (fun _ => e0) ch vb vo vc := by
  have h1 : ∀ i, i < (startT e).nds.length → i = 0 := fun i hi => by simp [startT] at hi; exact hi
  refine ⟨⟨h.nodes, fun i hi => ?_, fun i hi _ => ?_, hk, h.bm, hbk, fun _ _ => h.bx, fun _ _ _ => h.be, hkm, fun _ _ _ => ⟨h.em, hke⟩, fun i j hi hj _ _ _ => by rw [h1 i hi, h1 j hj], fun i j hi hj _ => by rw [h1 i hi, h1 j hj]⟩, h.tree, h.volr, h.volb, h.vcp, h.bt, h.bv, h.bo⟩
  · obtain rfl := h1 i hi
    exact h.node
  · obtain rfl := h1 i hi
    exact h.ent
/-- an entry of a node that is there -/
theorem RL.entry {w w' : World} {B : Nat} {s : TS} {t mn kn : Nat} {nb eb : Nat → Nat} {ch : Int} {vb vo vc : Nat} (h : RL w B s t mn kn nb eb ch vb vo vc) {d j : Nat} (hd : d < s.nds.length) (hdd : dirK (s.nd d) = true) (hj : j < s.nds.length) {s' : TS} (hs : s'.nds = s.nds)
    (htc : TC (RNode vo) w' B s' mn kn nb eb) (hF : Fx (fun b => b = eb d ∨ b = nb j) w w') : RL w' B s' t mn kn nb eb ch vb vo vc :=
  h.turn hF (fun b hb => by
    rcases hb with rfl | rfl
    · exact RMN.map (h.tc.ents d hd hdd)
    · exact RMN.node (h.tc.node j hj)) htc (by rw [hs]) rfl
/-- behind the last slash there is none -/
theorem last_clean {p : ByteArray} {k : Nat} (h : lastSlash p = some k) : (lastP p k).data.toList.contains 47 = false := by
  obtain ⟨h1, _⟩ := last_some h
  rcases Lib.lastIndexByte_spec p 47 with ⟨e, _⟩ | ⟨i, hi, e, _, hn⟩
  · omega
  · have hik : i = k := by omega
    subst hik
    refine Bool.eq_false_iff.2 (fun hc => ?_)
    obtain ⟨j, hj, ej⟩ := List.mem_iff_getElem.1 (List.contains_iff_mem.1 hc)
    have hd : (lastP p i).data = p.data.extract (i + 1) p.size := by simp [lastP]
    have hj2 : j < (p.data.extract (i + 1) p.size).size := by rw [← hd]; simpa using hj
    have hj3 : i + 1 + j < p.size := by
      have : (p.data.extract (i + 1) p.size).size = min p.size p.data.size - (i + 1) := by simp
      have h5 : p.data.size = p.size := rfl
      omega
    have e2 : (p.data[i + 1 + j]!) = 47 := by
      have h6 : (lastP p i).data.toList[j] = p.data[i + 1 + j]'hj3 := by
        simp only [Array.getElem_toList, hd, Array.getElem_extract]
      rw [getElem!_pos p.data (i + 1 + j) hj3, ← h6, ej]
    exact hn (i + 1 + j) (by omega) hj3 (by rw [e2]; rfl)
/-- what LoadFiles answers -/
def RLoaded (w : World) (l : List FE) (r : Ending) (w' : World) : Prop := (∃ p, r = .returned (.tuple #[p, .int .i64 (answerT l)])) ∧ Below w.heap.size w w'
theorem RLoaded.no {w w' : World} {l : List FE} {p : Value} {k : Int} (hb : Below w.heap.size w w') (hk : answerT l = k) : RLoaded w l (.returned (.tuple #[p, .int .i64 k])) w' := ⟨⟨p, by rw [hk]⟩, hb⟩
theorem right_same_dir (e : FE) (hk : e.kind = 2) (hs : e.same ≠ noneB) : rightB e = false := by
  unfold rightB
  rw [if_pos hs]
  refine decide_eq_false (fun h => ?_)
  rw [h] at hk
  cases hk

set_option maxRecDepth 100000 in
set_option maxHeartbeats 3200000 in
theorem rload_any (l : List FE) (v : Value) (w : World) (hv : FL w v l) (hn : l.length ≤ 4611686018427387903) (hsz : ∀ e ∈ l, e.path.size < 4611686018427387904 ∧ e.text.size ≤ maxLen) :
    Calls Tryz.prog 5 #[v] w (RLoaded w l) := by
  have HV := Lib.hid hv
  obtain ⟨A, c, rfl, hc, _⟩ := hv
  obtain ⟨Q, hQ⟩ : ∃ Q, Q = RLoaded w l := ⟨_, rfl⟩
  rw [← hQ]
  have HQ := Lib.hid hQ
  have HSZ := Lib.hid hsz
  clear hQ hsz
  have HNO : Hid (∀ (k : Int) w', answerT l = k → Below w.heap.size w w' → Q (.returned (.tuple #[.pointer none, .int .i64 k])) w') := Lib.hid (fun k w' ha hb => by rw [HQ.out]; exact RLoaded.no hb ha)
  obtain ⟨len, hlen⟩ : ∃ n, n = l.length := ⟨_, rfl⟩
  have HLEN := Lib.hid hlen
  rw [← hlen] at hc hn ⊢
  clear hlen
  go_enter Tryz.func5, Tryz.ntmps5
  go_wp2_with fail
  go_loopw [4, 19] (fun s4 s19 wr => ∃ k : Nat, k ≤ len ∧ s19 = .int .i64 (k : Int) ∧ s4 = .int .i64 (aloneN l k : Int) ∧ Hid (Below w.heap.size w wr)) (fun _ s19 _ => len - (intOf s19).toNat)
  case atStart => exact ⟨0, Nat.zero_le _, rfl, rfl, Lib.hid (Below.refl _ _)⟩
  case round =>
    obtain ⟨k, hk, rfl, rfl, HB⟩ := hrel
    by_cases hlt : k < len
    · have hltl : k < l.length := by have := HLEN.out; omega
      obtain ⟨b, off, rfl, hb, hcell⟩ : ∃ b off, A = some ⟨b, off, none⟩ ∧ b < wr.heap.size ∧ ∀ j (h : j < l.length), FeIn wr b (off + j * 8) l[j] := by
        obtain ⟨A', c', e, _, h2⟩ := HV.out.keep HB.out
        injection e with e1
        subst e1
        exact h2 (by omega)
      obtain ⟨c0, c1, c2, c3, c4, c5, c6, c7⟩ := hcell k hltl
      have HNX := Lib.hid (alone_next l k hltl)
      have hal := alone_le l k
      obtain ⟨z, hz⟩ : ∃ z, z = l[k] := ⟨_, rfl⟩
      rw [← hz] at c0 c1 c2 c3 c4 c5 c6 c7 HNX
      have hltz : (k : Int) < (len : Int) := by omega
      have hk1 : IntKind.i64.wrap ((k : Int) + 1) = ((k + 1 : Nat) : Int) := IntWalk.i64_in _ (by omega)
      have ha1 : IntKind.i64.wrap ((aloneN l k : Int) + 1) = ((aloneN l k + 1 : Nat) : Int) := IntWalk.i64_in _ (by omega)
      generalize aloneN l k = q at *
      clear hcell hz hal
      go_upto_region 5 with fail
      obtain ⟨x, hx⟩ : ∃ x, x = wr.heap.size := ⟨_, rfl⟩
      obtain ⟨W1, hW1⟩ : ∃ z', z' = wr.alloc (.cells #[.string z.path, .int .i64 z.kind, .int .i64 z.mode, .int .i64 z.user, .int .i64 z.group, .string z.text, .int .i64 z.changed, .string z.same] 33) := ⟨_, rfl⟩
      have hx0 : W1.heap[x]? = some (.cells #[.string z.path, .int .i64 z.kind, .int .i64 z.mode, .int .i64 z.user, .int .i64 z.group, .string z.text, .int .i64 z.changed, .string z.same] 33 (0, 0)) := by rw [hW1, hx]; exact heap_alloc_new wr _
      have x7 : W1.cell? ⟨x, 7, none⟩ = some (.string z.same) := by simp [World.cell?, hx0]
      have HB1 : Hid (Below w.heap.size w W1) := Lib.hid (by rw [hW1]; exact HB.out.alloc HB.out.size _)
      rw [← hx, ← hW1]
      clear hx hW1 hx0 c0 c1 c2 c3 c4 c5 c6 c7
      obtain ⟨ts, hts⟩ : ∃ ts, ts = z.same := ⟨_, rfl⟩
      rw [← hts] at x7 HNX
      clear hts
      by_cases hs : ts = noneB
      · have HN2 : Hid (aloneN l (k + 1) = q + 1) := Lib.hid (by rw [HNX.out, if_pos hs])
        have hse : (ts.toList == []) = true := by rw [empty_dec, decide_eq_true hs]
        clear HNX hs
        go_wp2_with fail
        exact ⟨⟨k + 1, by omega, by simp, by rw [HN2.out]; rfl, HB1⟩, by simp [intOf]; omega⟩
      · have HN2 : Hid (aloneN l (k + 1) = q) := Lib.hid (by rw [HNX.out, if_neg hs, Nat.add_zero])
        have hse : (ts.toList == []) = false := by rw [empty_dec, decide_eq_false hs]
        clear HNX hs
        go_wp2_with fail
        exact ⟨⟨k + 1, by omega, by simp, by rw [HN2.out], HB1⟩, by simp [intOf]; omega⟩
    · obtain rfl : k = len := by omega
      obtain ⟨al, hal⟩ : ∃ n, n = aloneN l k := ⟨_, rfl⟩
      have HAL : Hid (aloneT l = al) := Lib.hid (by rw [hal, HLEN.out]; unfold aloneN; rw [List.take_length])
      rw [← hal]
      clear hal
      obtain ⟨w1, hw1⟩ : ∃ x, x = wr := ⟨_, rfl⟩
      subst hw1
      by_cases h1 : 2001 < k
      · have HF := Lib.hid (HNO.out 2 w1 (answer_many (by rw [← HLEN.out]; exact h1)) HB.out)
        have h1z : (2001 : Int) < (k : Int) := by omega
        clear h1
        go_wp2_with fail
        exact HF.out
      have h1z : ¬ (2001 : Int) < (k : Int) := by omega
      by_cases h2 : 2000 < al
      · have HF := Lib.hid (HNO.out 2 w1 (answer_alone (by rw [HAL.out]; exact h2)) HB.out)
        have h2z : (2000 : Int) < (al : Int) := by omega
        clear h1 h2
        go_wp2_with fail
        exact HF.out
      have h2z : ¬ (2000 : Int) < (al : Int) := by omega
      by_cases hl0 : k = 0
      · have HF := Lib.hid (HNO.out 5 w1 (by rw [show l = [] from List.length_eq_zero_iff.1 (by rw [← HLEN.out]; exact hl0)]; rfl) HB.out)
        have hl0z : ((k : Int) == 0) = true := by rw [hl0]; rfl
        clear hl0
        go_wp2_with fail
        exact HF.out
      have hl0z : ((k : Int) == 0) = false := beq_eq_false_iff_ne.2 (by omega)
      have hlp : 0 < k := by omega
      obtain ⟨e, r, hle⟩ : ∃ e r, l = e :: r := by
        cases hl : l with
        | nil => exact absurd (by rw [HLEN.out, hl]; rfl) hl0
        | cons e r => exact ⟨e, r, rfl⟩
      have HAN : Hid (answerT l = if e.path ≠ slash ∨ e.kind ≠ 2 ∨ rightB e = false then 5 else
        match loadT (startT e) r with
        | none => 5
        | some s => if allT s = l ∧ usedT s ≤ 1048576 then 0 else 5) := Lib.hid (by
          have h := answer_of (e := e) (r := r) (by rw [← hle, ← HLEN.out]; exact h1) (by rw [← hle, HAL.out]; exact h2)
          rw [← hle] at h
          exact h)
      obtain ⟨hsp, hst⟩ := HSZ.out e (by rw [hle]; exact List.mem_cons_self)
      have HRL : Hid (k = r.length + 1) := Lib.hid (by rw [HLEN.out, hle]; simp)
      have HRZ : Hid (∀ j (h : j < r.length), r[j].path.size < 4611686018427387904 ∧ r[j].text.size ≤ maxLen) := Lib.hid (fun j h => HSZ.out _ (by rw [hle]; exact List.mem_cons_of_mem _ (List.getElem_mem h)))
      have HLE := Lib.hid hle
      obtain ⟨b, off, rfl, hbw, hcell⟩ : ∃ b off, A = some ⟨b, off, none⟩ ∧ b < w.heap.size ∧ ∀ j (h : j < l.length), FeIn w b (off + j * 8) l[j] := by
        obtain ⟨A', c', e1, _, h2⟩ := HV.out
        injection e1 with e1
        subst e1
        exact h2 (by rw [← HLEN.out]; omega)
      have hc0 : FeIn w b off e := by
        have h := hcell 0 (by rw [← HLEN.out]; omega)
        rw [Nat.zero_mul, Nat.add_zero] at h
        have h2 : l[0]'(by rw [← HLEN.out]; omega) = e := by simp [hle]
        rwa [h2] at h
      have HC0 := Lib.hid hc0
      have HCE : Hid (∀ j (h : j < r.length), FeIn w b (off + 8 + j * 8) r[j]) := Lib.hid (fun j h => by
        have h1 := hcell (j + 1) (by rw [hle]; simp; omega)
        have h2 : l[j + 1]'(by rw [hle]; simp; omega) = r[j] := by simp [hle]
        rwa [h2, show off + (j + 1) * 8 = off + 8 + j * 8 by omega] at h1)
      clear hcell hc0 hle
      obtain ⟨c0, c1, c2, c3, c4, c5, c6, c7⟩ := HC0.out.keep HB.out
      have HF5 : Hid ((e.path ≠ slash ∨ e.kind ≠ 2 ∨ rightB e = false) → ∀ w', Below w.heap.size w w' → Q (.returned (.tuple #[.pointer none, .int .i64 5])) w') := Lib.hid (fun hh w' hb => HNO.out 5 w' (by rw [HAN.out, if_pos hh]) hb)
      by_cases hp : e.path = slash
      · have hpb : (e.path.toList == [47]) = true := by rw [slash_dec, decide_eq_true hp]
        have HP := Lib.hid hp
        clear hp
        by_cases hkd : e.kind = 2
        · have HKD := Lib.hid hkd
          rw [hkd] at c1
          by_cases hsm : e.same = noneB
          · have hsb : (e.same.toList == []) = true := by rw [empty_dec, decide_eq_true hsm]
            have HRB := Lib.hid (plainB_right e hsm)
            have HPL : Hid (Calls Tryz.prog 10 #[.agg #[.string e.path, .int .i64 2, .int .i64 e.mode, .int .i64 e.user, .int .i64 e.group, .string e.text, .int .i64 e.changed, .string e.same]] w1 fun r w' => r = .returned (.bool (plainB e)) ∧ Below w1.heap.size w1 w') := Lib.hid (by
              have h := plain_any e w1 hst
              unfold feV at h
              rw [hkd] at h
              exact h)
            clear hsm hkd
            go_wp2_with fail
            refine HPL.out.mono ?_
            rintro r1 w2 ⟨rfl, hb2⟩
            have HB2 : Hid (Below w.heap.size w w2) := Lib.hid (HB.out.trans (hb2.mono HB.out.size))
            clear hb2 c0 c1 c2 c3 c4 c5 c6 c7
            cases hr : plainB e with
            | false =>
              have HF := Lib.hid (HF5.out (.inr (.inr (by rw [HRB.out]; exact hr))) w2 HB2.out)
              clear hr
              go_wp2_with fail
              exact HF.out
            | true =>
              have HR : Hid (rightB e = true) := Lib.hid (by rw [HRB.out]; exact hr)
              clear hr
              have HNEW := Lib.hid (rnew_any w2 w.heap.size HB2.out.size)
              go_wp2_with fail
              refine HNEW.out.mono ?_
              rintro r1 w3 ⟨t, mn, x, e0, vb, vo, vc, rfl, hN3, hb3⟩
              have HB3 : Hid (Below w.heap.size w w3) := Lib.hid (HB2.out.trans hb3)
              have HN3 := Lib.hid hN3
              have ht3 := hN3.tree
              obtain ⟨vcs, hv31, hv32⟩ := hN3.volr
              have hvo3 := hN3.volb
              have hvc3 := hN3.vcp
              have t3 : w3.cell? ⟨t, 3, none⟩ = some (.slice (some ⟨vb, 0, none⟩) 1 vc) := by simp [World.cell?, ht3]
              have tv0 : w3.cell? ⟨vb, 0, none⟩ = some (ptr vo) := by simp [World.cell?, hv31, hv32]
              have tv3 : w3.cell? ⟨vo, 3, none⟩ = some (ptr x) := by simp [World.cell?, hvo3]
              clear hv31 hv32 hvo3
              clear hb3 hN3 ht3
              go_upto_region 14 with fail
              obtain ⟨k0, k1, k2, k3, k4, k5, k6, k7⟩ := HC0.out.keep HB3.out
              refine wp_region_tailB 29 99 (fun W => W.cell? ⟨b, off + 2, none⟩ = some (.int .i64 e.mode) ∧ W.cell? ⟨b, off + 3, none⟩ = some (.int .i64 e.user) ∧ W.cell? ⟨b, off + 4, none⟩ = some (.int .i64 e.group) ∧ W.cell? ⟨b, off + 6, none⟩ = some (.int .i64 e.changed)) (by kernel_rfl) (by decide) (by kernel_rfl) ?_
              intro hTB
              have hxB := HN3.out.bx
              obtain ⟨nm0, pr0, hx3⟩ := HN3.out.node
              have HX0 : Hid (w3.drew.heap[x]? = some (.cells #[.int .i64 ((0 + 1 : Nat) : Int), .int .i64 2, .int .i64 493, .int .i64 0, .int .i64 0, ptr vo, .string noneB, .map (some e0), nm0, .int .i64 pr0, .int .i64 0, .int .i64 0, .pointer none] 55 (0, 0))) := Lib.hid hx3
              have HF0 : Hid (Fx (fun b => b = x) w3 w3.drew) := Lib.hid (Fx.drew _ _)
              have HSt : Hid (∀ (W : World) (v : Value) (i : Nat), (W.cell? ⟨b, off + 2, none⟩ = some (.int .i64 e.mode) ∧ W.cell? ⟨b, off + 3, none⟩ = some (.int .i64 e.user) ∧ W.cell? ⟨b, off + 4, none⟩ = some (.int .i64 e.group) ∧ W.cell? ⟨b, off + 6, none⟩ = some (.int .i64 e.changed)) → (W.setCell ⟨x, i, none⟩ v).cell? ⟨b, off + 2, none⟩ = some (.int .i64 e.mode) ∧ (W.setCell ⟨x, i, none⟩ v).cell? ⟨b, off + 3, none⟩ = some (.int .i64 e.user) ∧ (W.setCell ⟨x, i, none⟩ v).cell? ⟨b, off + 4, none⟩ = some (.int .i64 e.group) ∧ (W.setCell ⟨x, i, none⟩ v).cell? ⟨b, off + 6, none⟩ = some (.int .i64 e.changed)) := Lib.hid (fun W v i h => by
                have k := fun j => World.cell?_setCell_other W ⟨x, i, none⟩ ⟨b, j, none⟩ v (fun e => by injection e with e1; omega)
                rw [k, k, k, k]
                exact h)
              clear hx3
              have hS0 : w3.drew.cell? ⟨b, off + 2, none⟩ = some (.int .i64 e.mode) ∧ w3.drew.cell? ⟨b, off + 3, none⟩ = some (.int .i64 e.user) ∧ w3.drew.cell? ⟨b, off + 4, none⟩ = some (.int .i64 e.group) ∧ w3.drew.cell? ⟨b, off + 6, none⟩ = some (.int .i64 e.changed) := ⟨k2, k3, k4, k6⟩
              generalize w3.drew = W0 at *
              refine wpAnyT_take 99 0 (v := ?_) hTB rfl (by kernel_rfl) (fun _ _ _ h => h) (Or.inl ⟨by rfl, fun W hW => ?_⟩) (by with_reducible assumption) ?_
              rotate_left
              focus ((try dsimp only at hW); (try obtain ⟨hW0, hW1, hW2, hW3⟩ := hW); go_simp; (try rw [if_pos hlp]); try with_reducible rfl)
              refine wpAnyT_take 99 1 (v := ?_) hTB rfl (by kernel_rfl) (fun _ _ _ h => h) (Or.inl ⟨by rfl, fun W hW => ?_⟩) (by with_reducible assumption) ?_
              rotate_left
              focus ((try dsimp only at hW); (try obtain ⟨hW0, hW1, hW2, hW3⟩ := hW); go_simp; (try rw [if_pos hlp]); try with_reducible rfl)
              refine wpAnyT_take 99 2 (v := ?_) hTB rfl (by kernel_rfl) (fun _ _ _ h => h) (Or.inl ⟨by rfl, fun W hW => ?_⟩) (by with_reducible assumption) ?_
              rotate_left
              focus ((try dsimp only at hW); (try obtain ⟨hW0, hW1, hW2, hW3⟩ := hW); go_simp; (try rw [if_pos hlp]); try with_reducible rfl)
              refine wpAnyT_take 99 3 (v := ?_) hTB rfl (by kernel_rfl) (fun _ _ _ h => h) (Or.inl ⟨by rfl, fun W hW => ?_⟩) (by with_reducible assumption) ?_
              rotate_left
              focus ((try dsimp only at hW); (try obtain ⟨hW0, hW1, hW2, hW3⟩ := hW); go_simp; (try rw [if_pos hlp]); try with_reducible rfl)
              refine wpAnyT_take 99 4 (v := ?_) hTB rfl (by kernel_rfl) (fun _ _ _ h => h) (Or.inl ⟨by rfl, fun W hW => ?_⟩) (by with_reducible assumption) ?_
              rotate_left
              focus ((try dsimp only at hW); (try obtain ⟨hW0, hW1, hW2, hW3⟩ := hW); go_simp; (try rw [if_pos hlp]); try with_reducible rfl)
              refine wpAnyT_take 99 5 (v := ?_) hTB rfl (by kernel_rfl) (fun _ _ _ h => h) (Or.inl ⟨by rfl, fun W hW => ?_⟩) (by with_reducible assumption) ?_
              rotate_left
              focus ((try dsimp only at hW); (try obtain ⟨hW0, hW1, hW2, hW3⟩ := hW); go_simp; (try rw [if_pos hlp]); try with_reducible rfl)
              refine wpAnyT_take 99 6 (v := ?_) hTB rfl (by kernel_rfl) (fun _ _ _ h => h) (Or.inl ⟨by rfl, fun W hW => ?_⟩) (by with_reducible assumption) ?_
              rotate_left
              focus ((try dsimp only at hW); (try obtain ⟨hW0, hW1, hW2, hW3⟩ := hW); go_simp; (try rw [if_pos hlp]); try with_reducible rfl)
              refine wpAnyT_take 99 7 (v := ?_) hTB rfl (by kernel_rfl) (fun _ _ _ h => h) (Or.inl ⟨by rfl, fun W hW => ?_⟩) (by with_reducible assumption) ?_
              rotate_left
              focus ((try dsimp only at hW); (try obtain ⟨hW0, hW1, hW2, hW3⟩ := hW); go_simp; (try rw [if_pos hlp]); try with_reducible rfl)
              refine wpAnyT_take 99 8 (v := ?_) hTB rfl (by kernel_rfl) (fun _ _ _ h => h) (Or.inl ⟨by rfl, fun W hW => ?_⟩) (by with_reducible assumption) ?_
              rotate_left
              focus ((try dsimp only at hW); (try obtain ⟨hW0, hW1, hW2, hW3⟩ := hW); go_simp; (try rw [if_pos hlp]); try with_reducible rfl)
              refine wpAnyT_take 99 9 (v := ?_) hTB rfl (by kernel_rfl) (fun _ _ _ h => h) (Or.inl ⟨by rfl, fun W hW => ?_⟩) (by with_reducible assumption) ?_
              rotate_left
              focus ((try dsimp only at hW); (try obtain ⟨hW0, hW1, hW2, hW3⟩ := hW); go_simp; (try rw [if_pos hlp]); try with_reducible rfl)
              refine wpAnyT_take 99 10 (v := ?_) hTB rfl (by kernel_rfl) (fun _ _ _ h => h) (Or.inl ⟨by rfl, fun W hW => ?_⟩) (by with_reducible assumption) ?_
              rotate_left
              focus ((try dsimp only at hW); (try obtain ⟨hW0, hW1, hW2, hW3⟩ := hW); go_simp; (try rw [if_pos hlp]); try with_reducible rfl)
              refine wpAnyT_take 99 11 (v := ?_) hTB rfl (by kernel_rfl) (fun _ _ _ h => h) (Or.inl ⟨by rfl, fun W hW => ?_⟩) (by with_reducible assumption) ?_
              rotate_left
              focus ((try dsimp only at hW); (try obtain ⟨hW0, hW1, hW2, hW3⟩ := hW); go_simp; (try rw [if_pos hlp]); try with_reducible rfl)
              refine wpAnyT_take 99 12 (v := ?_) hTB rfl (by kernel_rfl) (fun _ _ _ h => h) (Or.inl ⟨by rfl, fun W hW => ?_⟩) (by with_reducible assumption) ?_
              rotate_left
              focus ((try dsimp only at hW); (try obtain ⟨hW0, hW1, hW2, hW3⟩ := hW); go_simp; (try rw [if_pos hlp]); try with_reducible rfl)
              refine wpAnyT_take 99 13 (v := ?_) hTB rfl (by kernel_rfl) (fun _ _ _ h => h) (Or.inl ⟨by rfl, fun W hW => ?_⟩) (by with_reducible assumption) ?_
              rotate_left
              focus ((try dsimp only at hW); (try obtain ⟨hW0, hW1, hW2, hW3⟩ := hW); go_simp; (try rw [if_pos hlp]); try with_reducible rfl)
              refine wpAnyT_take 99 14 (v := ?_) hTB rfl (by kernel_rfl) (fun _ _ _ h => h) (Or.inl ⟨by rfl, fun W hW => ?_⟩) (by with_reducible assumption) ?_
              rotate_left
              focus ((try dsimp only at hW); (try obtain ⟨hW0, hW1, hW2, hW3⟩ := hW); go_simp; (try rw [if_pos hlp]); try with_reducible rfl)
              refine wpAnyT_take 99 15 (v := ?_) hTB rfl (by kernel_rfl) (fun _ _ _ h => h) (Or.inl ⟨by rfl, fun W hW => ?_⟩) (by with_reducible assumption) ?_
              rotate_left
              focus ((try dsimp only at hW); (try obtain ⟨hW0, hW1, hW2, hW3⟩ := hW); go_simp; (try rw [if_pos hlp]); try with_reducible rfl)
              refine wpAnyT_take 99 16 (v := ?_) hTB rfl (by kernel_rfl) (fun _ _ _ h => h) (Or.inl ⟨by rfl, fun W hW => ?_⟩) (by with_reducible assumption) ?_
              rotate_left
              focus ((try dsimp only at hW); (try obtain ⟨hW0, hW1, hW2, hW3⟩ := hW); go_simp; (try rw [if_pos hlp]); try with_reducible rfl)
              refine wpAnyT_take 99 17 (v := ?_) hTB rfl (by kernel_rfl) (fun _ _ _ h => h) (Or.inl ⟨by rfl, fun W hW => ?_⟩) (by with_reducible assumption) ?_
              rotate_left
              focus ((try dsimp only at hW); (try obtain ⟨hW0, hW1, hW2, hW3⟩ := hW); go_simp; (try rw [if_pos hlp]); try with_reducible rfl)
              refine wpAnyT_take 99 18 (v := ?_) hTB rfl (by kernel_rfl) (fun _ _ _ h => h) (Or.inl ⟨by rfl, fun W hW => ?_⟩) (by with_reducible assumption) ?_
              rotate_left
              focus ((try dsimp only at hW); (try obtain ⟨hW0, hW1, hW2, hW3⟩ := hW); go_simp; (try rw [if_pos hlp]); try with_reducible rfl)
              refine wpAnyT_take 99 19 (v := ?_) hTB rfl (by kernel_rfl) (fun _ _ _ h => h) (Or.inl ⟨by rfl, fun W hW => ?_⟩) (by with_reducible assumption) ?_
              rotate_left
              focus ((try dsimp only at hW); (try obtain ⟨hW0, hW1, hW2, hW3⟩ := hW); go_simp; (try rw [if_pos hlp]); try with_reducible rfl)
              refine wpAnyT_take 99 20 (v := ?_) hTB rfl (by kernel_rfl) (fun _ _ _ h => h) (Or.inl ⟨by rfl, fun W hW => ?_⟩) (by with_reducible assumption) ?_
              rotate_left
              focus ((try dsimp only at hW); (try obtain ⟨hW0, hW1, hW2, hW3⟩ := hW); go_simp; (try rw [if_pos hlp]); try with_reducible rfl)
              refine wpAnyT_take 99 21 (v := ?_) hTB rfl (by kernel_rfl) (fun _ _ _ h => h) (Or.inl ⟨by rfl, fun W hW => ?_⟩) (by with_reducible assumption) ?_
              rotate_left
              focus ((try dsimp only at hW); (try obtain ⟨hW0, hW1, hW2, hW3⟩ := hW); go_simp; (try rw [if_pos hlp]); try with_reducible rfl)
              simp only [Act.put, List.getElem_toArray, List.getElem_cons_zero, List.getElem_cons_succ, List.setIfInBounds_toArray, List.set_cons_zero, List.set_cons_succ]
              refine wpAnyT_one 22 (by kernel_rfl) (by decide) ?_
              refine wpOp_at rfl rfl (fun K hK => ?_)
              have a0 : W0.cell? ⟨x, 2, none⟩ = some (.int .i64 493) := by have := HX0.out; simp [World.cell?, this]
              have f0 : W0.frozen? ⟨x, 2, none⟩ = false := by have := HX0.out; simp [World.frozen?, this]
              go_simp
              refine hK.out _ _ ⟨HSt.out W0 (.int .i64 e.mode) 2 hS0, ?_⟩
              have hS1 := HSt.out W0 (.int .i64 e.mode) 2 hS0
              have HX1 := Lib.hid (heap_setCell_same W0 x 2 _ _ _ HX0.out : (W0.setCell ⟨x, 2, none⟩ (.int .i64 e.mode)).heap[x]? = _)
              have HF1 := Lib.hid (HF0.out.trans (Fx.setCell (S := fun b => b = x) W0 rfl 2 (.int .i64 e.mode)))
              clear hK K a0 f0 hS0 HX0 HF0
              generalize W0.setCell ⟨x, 2, none⟩ (.int .i64 e.mode) = W1 at *
              try simp only [Act.put, List.getElem_toArray, List.getElem_cons_zero, List.getElem_cons_succ, List.setIfInBounds_toArray, List.set_cons_zero, List.set_cons_succ]
              refine wpAnyT_take 99 23 (v := ?_) hTB rfl (by kernel_rfl) (fun _ _ _ h => h) (Or.inl ⟨by rfl, fun W hW => ?_⟩) (by with_reducible assumption) ?_
              rotate_left
              focus ((try dsimp only at hW); (try obtain ⟨hW0, hW1, hW2, hW3⟩ := hW); go_simp; (try rw [if_pos hlp]); try with_reducible rfl)
              refine wpAnyT_take 99 24 (v := ?_) hTB rfl (by kernel_rfl) (fun _ _ _ h => h) (Or.inl ⟨by rfl, fun W hW => ?_⟩) (by with_reducible assumption) ?_
              rotate_left
              focus ((try dsimp only at hW); (try obtain ⟨hW0, hW1, hW2, hW3⟩ := hW); go_simp; (try rw [if_pos hlp]); try with_reducible rfl)
              try simp only [Act.put, List.getElem_toArray, List.getElem_cons_zero, List.getElem_cons_succ, List.setIfInBounds_toArray, List.set_cons_zero, List.set_cons_succ]
              refine wpAnyT_one 25 (by kernel_rfl) (by decide) ?_
              refine wpOp_at rfl rfl (fun K hK => ?_)
              have a1 : W1.cell? ⟨x, 3, none⟩ = some (.int .i64 0) := by have := HX1.out; simp [World.cell?, this]
              have f1 : W1.frozen? ⟨x, 3, none⟩ = false := by have := HX1.out; simp [World.frozen?, this]
              go_simp
              refine hK.out _ _ ⟨HSt.out W1 (.int .i64 e.user) 3 hS1, ?_⟩
              have hS2 := HSt.out W1 (.int .i64 e.user) 3 hS1
              have HX2 := Lib.hid (heap_setCell_same W1 x 3 _ _ _ HX1.out : (W1.setCell ⟨x, 3, none⟩ (.int .i64 e.user)).heap[x]? = _)
              have HF2 := Lib.hid (HF1.out.trans (Fx.setCell (S := fun b => b = x) W1 rfl 3 (.int .i64 e.user)))
              clear hK K a1 f1 hS1 HX1 HF1
              generalize W1.setCell ⟨x, 3, none⟩ (.int .i64 e.user) = W2 at *
              try simp only [Act.put, List.getElem_toArray, List.getElem_cons_zero, List.getElem_cons_succ, List.setIfInBounds_toArray, List.set_cons_zero, List.set_cons_succ]
              refine wpAnyT_take 99 26 (v := ?_) hTB rfl (by kernel_rfl) (fun _ _ _ h => h) (Or.inl ⟨by rfl, fun W hW => ?_⟩) (by with_reducible assumption) ?_
              rotate_left
              focus ((try dsimp only at hW); (try obtain ⟨hW0, hW1, hW2, hW3⟩ := hW); go_simp; (try rw [if_pos hlp]); try with_reducible rfl)
              refine wpAnyT_take 99 27 (v := ?_) hTB rfl (by kernel_rfl) (fun _ _ _ h => h) (Or.inl ⟨by rfl, fun W hW => ?_⟩) (by with_reducible assumption) ?_
              rotate_left
              focus ((try dsimp only at hW); (try obtain ⟨hW0, hW1, hW2, hW3⟩ := hW); go_simp; (try rw [if_pos hlp]); try with_reducible rfl)
              try simp only [Act.put, List.getElem_toArray, List.getElem_cons_zero, List.getElem_cons_succ, List.setIfInBounds_toArray, List.set_cons_zero, List.set_cons_succ]
              refine wpAnyT_one 28 (by kernel_rfl) (by decide) ?_
              refine wpOp_at rfl rfl (fun K hK => ?_)
              have a2 : W2.cell? ⟨x, 4, none⟩ = some (.int .i64 0) := by have := HX2.out; simp [World.cell?, this]
              have f2 : W2.frozen? ⟨x, 4, none⟩ = false := by have := HX2.out; simp [World.frozen?, this]
              go_simp
              refine hK.out _ _ ⟨HSt.out W2 (.int .i64 e.group) 4 hS2, ?_⟩
              have hS3 := HSt.out W2 (.int .i64 e.group) 4 hS2
              have HX3 := Lib.hid (heap_setCell_same W2 x 4 _ _ _ HX2.out : (W2.setCell ⟨x, 4, none⟩ (.int .i64 e.group)).heap[x]? = _)
              have HF3 := Lib.hid (HF2.out.trans (Fx.setCell (S := fun b => b = x) W2 rfl 4 (.int .i64 e.group)))
              clear hK K a2 f2 hS2 HX2 HF2
              generalize W2.setCell ⟨x, 4, none⟩ (.int .i64 e.group) = W3 at *
              try simp only [Act.put, List.getElem_toArray, List.getElem_cons_zero, List.getElem_cons_succ, List.setIfInBounds_toArray, List.set_cons_zero, List.set_cons_succ]
              refine ⟨by kernel_rfl, ?_⟩
              simp only [List.drop_succ_cons, List.drop_zero]
              clear hTB
              have a3 : W3.cell? ⟨x, 11, none⟩ = some (.int .i64 0) := by have := HX3.out; simp [World.cell?, this]
              have f3 : W3.frozen? ⟨x, 11, none⟩ = false := by have := HX3.out; simp [World.frozen?, this]
              have hx4 := heap_setCell_same W3 x 11 _ _ (.int .i64 e.changed) HX3.out
              have hF4 : Fx (fun b => b = x) w3 (W3.setCell ⟨x, 11, none⟩ (.int .i64 e.changed)) := HF3.out.trans (Fx.setCell (S := fun b => b = x) W3 rfl 11 (.int .i64 e.changed))
              have hN4 : NewR (W3.setCell ⟨x, 11, none⟩ (.int .i64 e.changed)) w.heap.size t mn x e0 vb vo vc ⟨2, e.mode, e.user, e.group, noneB, e.changed⟩ 0 := HN3.out.root hF4 ⟨nm0, pr0, hx4⟩
              have HB4 : Hid (Below w.heap.size w (W3.setCell ⟨x, 11, none⟩ (.int .i64 e.changed))) := Lib.hid (HB3.out.trans (hF4.below (fun b hb => by subst hb; exact hxB) HB3.out.size))
              have HN4 := Lib.hid hN4
              clear hx4 hF4 hN4 HX3 HF3 HSt hS3 k0 k1 k2 k3 k4 k5 k6 k7 t3 tv0 tv3 hvc3
              go_upto_region 15 with fail
              clear a3 f3
              generalize W3.setCell ⟨x, 11, none⟩ (.int .i64 e.changed) = W4 at *
              obtain ⟨k0, k1, k2, k3, k4, k5, k6, k7⟩ := HC0.out.keep HB4.out
              have ht4 := HN4.out.tree
              have t2 : W4.cell? ⟨t, 2, none⟩ = some (.int .i64 0) := by simp [World.cell?, ht4]
              have t2f : W4.frozen? ⟨t, 2, none⟩ = false := by simp [World.frozen?, ht4]
              have HN5 := Lib.hid (HN4.out.change e.changed)
              have HB5 : Hid (Below w.heap.size w (W4.setCell ⟨t, 2, none⟩ (.int .i64 e.changed))) := Lib.hid (HB4.out.setCell HN4.out.bt _)
              clear ht4
              go_upto_region 16 with fail
              clear t2 t2f k0 k1 k2 k3 k4 k5 k6 k7 HN4 HB4
              generalize W4.setCell ⟨t, 2, none⟩ (.int .i64 e.changed) = W5 at *
              obtain ⟨kn, hkn⟩ : ∃ k, k = W5.heap.size := ⟨_, rfl⟩
              obtain ⟨W6, hW6⟩ : ∃ z, z = W5.alloc (.map #[] 0) := ⟨_, rfl⟩
              have hm6 : MapAt W6 kn (sL []) := by rw [hW6, hkn]; exact MapAt.new W5
              have hb6 : Below W5.heap.size W5 W6 := by rw [hW6]; exact (Below.refl _ W5).alloc (Nat.le_refl _) _
              obtain ⟨W7, hmu, hW7⟩ := put_s (P := Tryz.prog) rmapE undS hm6 slash (ptr x) rfl
              have hm7 : MapAt W7 kn (sL [(slash, ptr x)]) := by rw [hW7]; exact hm6.put
              have hb7 : Below W5.heap.size W5 W7 := by rw [hW7]; exact below_hset hb6 (by omega) _
              have hB5s := HB5.out.size
              have HLD : Hid (RL W7 w.heap.size (startT e) t mn kn (fun _ => x) (fun _ => e0) e.changed vb vo vc) := Lib.hid ((HN5.out.keep hb7).rl hm7 (by have := HN5.out.nodes.lt; omega) (by have := HN5.out.ent.lt; omega) (by omega))
              have HB8 : Hid (Below w.heap.size w W7) := Lib.hid (HB5.out.trans (hb7.mono hB5s))
              have HW6 : Hid (W5.alloc (.map #[] 0) = W6) := Lib.hid hW6.symm
              have HKN : Hid (W5.heap.size = kn) := Lib.hid hkn.symm
              have hmu0 : (Instr.mapUpdate 53 (.map (some kn)) (.string ⟨#[47]⟩) (ptr x)).run Tryz.prog W6 = .ok () W7 := hmu
              rw [← HW6.out, ← HKN.out] at hmu0
              clear hmu hm6 hb6 hm7 hb7 hB5s hW6 hkn hW7 HN5 HB5
              have hmm := @run_makeMap Tryz.prog
              go_upto_region 17 with fail
              rw [HKN.out]
              clear hmu0 hmm
              go_cut [116, 117, 118] from 115 to 118 (fun s91 s92 s93 wx => wx = W7 ∧ s93 = .int .i64 0 ∧ ∃ (A1 : Option Addr) (n1 c1 : Nat), s91 = .slice A1 n1 c1 ∧ s92 = .int .i64 (n1 : Int) ∧ n1 = r.length ∧ (0 < r.length → A1 = some ⟨b, off + 8, none⟩))
              case first =>
                by_cases hc1 : c = 1
                · subst hc1
                  have hr0 : k = 1 := by omega
                  have hr1 : r.length = 0 := by have := HRL.out; omega
                  have HR0 := Lib.hid hr0
                  have HR1 := Lib.hid hr1
                  clear hr0 hr1
                  go_wp2_with fail
                  go_meet
                  exact ⟨rfl, rfl, _, 0, 0, rfl, rfl, HR1.out.symm, fun h => by rw [HR1.out] at h; exact absurd h (by decide)⟩
                · have hlz : (1 : Int) ≤ (k : Int) := by omega
                  go_wp2_with fail
                  go_meet
                  exact ⟨rfl, rfl, _, _, _, rfl, rfl, by have := HRL.out; omega, fun _ => rfl⟩
              case rest =>
                obtain ⟨rfl, rfl, A1, n1, c1, rfl, rfl, hn1, hA1⟩ := hcut
                subst hn1
                have HA1 := Lib.hid hA1
                have hrl : r.length ≤ 2000 := by have := HRL.out; omega
                obtain ⟨s0, hs0⟩ : ∃ s0, s0 = startT e := ⟨_, rfl⟩
                have HWF0 : Hid (WF s0 0) := Lib.hid (by rw [hs0]; exact wf_start e)
                have HKI0 : Hid (KI s0) := Lib.hid (by rw [hs0]; exact ki_start e)
                have HANS : Hid (answerT l = match loadT s0 r with
                  | none => 5
                  | some s => if allT s = l ∧ usedT s ≤ 1048576 then 0 else 5) := Lib.hid (by rw [HAN.out, if_neg (by simp only [not_or]; exact ⟨fun h => h HP.out, fun h => h HKD.out, by rw [HR.out]; decide⟩), hs0])
                have HBw : Hid (w.heap.size ≤ wc.heap.size) := Lib.hid HB8.out.size
                rw [← hs0] at HLD
                clear hA1 hlp hl0 hpb hl0z h1 h2 h1z h2z hsb hs0 HF5 HAN HNEW HKN HW6 HPL HRB HAL hlt
                obtain ⟨lc, hlc⟩ : ∃ x, x = k := ⟨_, rfl⟩
                subst hlc
                go_wp2_with fail
                go_loopw [118] (fun s118 wr => ∃ (k : Nat) (s : TS) (nb eb : Nat → Nat) (ch : Int), k ≤ r.length ∧ s118 = .int .i64 (k : Int) ∧ Hid (loadT s0 (r.take k) = some s) ∧ Hid (RL wr w.heap.size s t mn kn nb eb ch vb vo vc) ∧ Hid (WF s k) ∧ Hid (KI s) ∧ Hid (Below w.heap.size w wr)) (fun s118 _ => r.length - (intOf s118).toNat)
                case atStart => exact ⟨0, s0, _, _, _, Nat.zero_le _, rfl, Lib.hid rfl, HLD, HWF0, HKI0, HB8⟩
                case round =>
                  obtain ⟨k, s, nb, eb, ch, hk, rfl, HLT, HLk, HWk, HKk, HBk⟩ := hrel
                  by_cases hkl : k < r.length
                  · obtain rfl := HA1.out (by omega)
                    obtain ⟨z, hz⟩ : ∃ z, z = r[k] := ⟨_, rfl⟩
                    have hcell : FeIn wr b (off + 8 + k * 8) z := by
                      have h1 := HCE.out k hkl
                      rw [← hz] at h1
                      exact h1.keep HBk.out
                    obtain ⟨c0, c1, c2, c3, c4, c5, c6, c7⟩ := hcell
                    have HZ : Hid (r[k] = z) := Lib.hid hz.symm
                    obtain ⟨hzp, hzt⟩ : z.path.size < 4611686018427387904 ∧ z.text.size ≤ maxLen := by rw [hz]; exact HRZ.out k hkl
                    have HFN : Hid (stepT s z = none → ∀ w', Below w.heap.size w w' → Q (.returned (.tuple #[.pointer none, .int .i64 5])) w') := Lib.hid (fun hf w' hb => HNO.out 5 w' (by rw [HANS.out, loadT_fail HLT.out hkl (by rw [← hz]; exact hf)]) hb)
                    clear hz
                    go_upto_region 20 with fail
                    obtain ⟨W1, hW1⟩ : ∃ z', z' = wr.alloc (.cells #[.string z.path, .int .i64 z.kind, .int .i64 z.mode, .int .i64 z.user, .int .i64 z.group, .string z.text, .int .i64 z.changed, .string z.same] 33) := ⟨_, rfl⟩
                    obtain ⟨bx, hbx⟩ : ∃ x, x = wr.heap.size := ⟨_, rfl⟩
                    have hx0 : W1.heap[bx]? = some (.cells #[.string z.path, .int .i64 z.kind, .int .i64 z.mode, .int .i64 z.user, .int .i64 z.group, .string z.text, .int .i64 z.changed, .string z.same] 33 (0, 0)) := by rw [hW1, hbx]; exact heap_alloc_new wr _
                    have HX : Hid (FeAt W1 bx z) := Lib.hid hx0
                    have hb1 : Below wr.heap.size wr W1 := by rw [hW1]; exact (Below.refl _ wr).alloc (Nat.le_refl _) _
                    have HB1 : Hid (Below w.heap.size w W1) := Lib.hid (HBk.out.trans (hb1.mono HBk.out.size))
                    have HL1 := Lib.hid (HLk.out.keep hb1)
                    have HBW : Hid (w.heap.size ≤ W1.heap.size) := Lib.hid HB1.out.size
                    rw [← hbx, ← hW1]
                    clear hx0 hb1 hW1 hbx c0 c1 c2 c3 c4 c5 c6 c7
                    obtain ⟨x0, x1, x2, x3, x4, x5, x6, x7⟩ := HX.out.cells
                    have HLI := Lib.hid (fun W => Tryz.strings_LastIndexByte z.path 47 hzp W)
                    cases hk : lastSlash z.path with
                    | none =>
                      have hneg := last_none hk
                      have HF := Lib.hid (HFN.out (step_no hk) W1 HB1.out)
                      generalize Lib.lastIndexByte z.path 47 = zi at *
                      clear hk
                      go_wp2_with fail
                      refine (HLI.out _).mono ?_
                      rintro r2 w2 ⟨rfl, rfl⟩
                      go_wp2_with fail
                      exact HF.out
                    | some q =>
                      obtain ⟨hqz, hql⟩ := last_some hk
                      rw [hqz] at HLI
                      have HST := Lib.hid (step_of (s := s) hk)
                      have HKE := Lib.hid hk
                      clear hk hqz
                      go_wp2_with fail
                      refine (HLI.out _).mono ?_
                      rintro r2 w2 ⟨rfl, rfl⟩
                      go_wp2_with fail
                      have hq1 : IntKind.i64.wrap ((q : Int) + 1) = ((q + 1 : Nat) : Int) := IntWalk.i64_in _ (by omega)
                      obtain ⟨nm, hnm⟩ : ∃ nm, nm = z.path.extract (q + 1) z.path.size := ⟨_, rfl⟩
                      have HNM : Hid (lastP z.path q = nm) := Lib.hid hnm.symm
                      have HNE : Hid (z.path.extract (q + 1) z.path.size = nm) := Lib.hid hnm.symm
                      have HCL : Hid (nm.data.toList.contains 47 = false) := Lib.hid (by rw [← HNM.out]; exact last_clean HKE.out)
                      obtain ⟨bf, hbf⟩ : ∃ bf, bf = z.path.extract 0 q := ⟨_, rfl⟩
                      have HBF : Hid (z.path.extract 0 q = bf) := Lib.hid hbf.symm
                      have hbfs : bf.size = q := by rw [hbf, ByteArray.size_extract]; omega
                      obtain ⟨b0, hb0⟩ : ∃ b, b = (bf.toList == []) := ⟨_, rfl⟩
                      have HUP : Hid (b0 = true → upP z.path q = slash) := Lib.hid (fun hb => by
                        rw [hb0, empty_dec] at hb
                        have h1 : bf = noneB := of_decide_eq_true hb
                        have : q = 0 := by rw [← hbfs, h1]; rfl
                        unfold upP
                        rw [if_pos this])
                      have HUP2 : Hid (b0 = false → upP z.path q = bf) := Lib.hid (fun hb => by
                        rw [hb0, empty_dec] at hb
                        have h1 : bf ≠ noneB := of_decide_eq_false hb
                        have : q ≠ 0 := fun h0 => h1 (by
                          apply ByteArray.ext
                          have : bf.data.size = 0 := by show bf.size = 0; omega
                          exact Array.eq_empty_of_size_eq_zero this)
                        unfold upP
                        rw [if_neg this, HBF.out])
                      have hb0' : (bf.toList == []) = b0 := hb0.symm
                      clear hnm hbf hbfs hb0
                      go_upto_region 23 with fail
                      go_quiet (fail)
                      rw [HNE.out, HBF.out]
                      have hb3 := below_drewN (Below.refl w2.heap.size w2) nq
                      generalize w2.drewN nq = w3 at *
                      have HB3 : Hid (Below w.heap.size w w3) := Lib.hid (HB1.out.trans (hb3.mono HBW.out))
                      have HX3 := Lib.hid (HX.out.keep hb3)
                      have HL3 := Lib.hid (HL1.out.keep hb3)
                      clear x0 x1 x2 x3 x4 x5 x6 x7 hb3 HB1 HX HL1 HLI hq1
                      go_upto_if 137 with fail
                      clear hb0'
                      go_cut [13] from 120 to 137 (fun s13 wx => s13 = .string (upP z.path q) ∧ wx = w3)
                      case first =>
                        cases b0 with
                        | false =>
                          have hu := HUP2.out rfl
                          go_wp2_with fail
                          go_meet
                          exact ⟨by rw [hu], rfl⟩
                        | true =>
                          have hu := HUP.out rfl
                          go_wp2_with fail
                          go_meet
                          exact ⟨by rw [hu]; rfl, rfl⟩
                      case rest =>
                        obtain ⟨rfl, rfl⟩ := hcut
                        obtain ⟨dv, hdv⟩ : ∃ dv, dv = (match getA s.known (upP z.path q) with | some j => ptr (nb j) | none => .pointer none) := ⟨_, rfl⟩
                        have hlk : (Instr.lookup 53 (.map (some kn)) (.string (upP z.path q)) false).run Tryz.prog wc = .ok dv wc := by
                          rw [hdv]
                          exact HL3.out.byPath _
                        have HDV := Lib.hid hdv
                        clear hdv
                        obtain ⟨x0, x1, x2, x3, x4, x5, x6, x7⟩ := HX3.out.cells
                        cases hg : getA s.known (upP z.path q) with
                        | none =>
                          have HF := Lib.hid (HFN.out (by rw [HST.out, hg]; split <;> rfl) wc HB3.out)
                          have hd2 : dv = .pointer none := by rw [HDV.out, hg]
                          subst hd2
                          clear hg
                          go_wp2_with fail
                          exact HF.out
                        | some d =>
                          have hd2 : dv = ptr (nb d) := by rw [HDV.out, hg]
                          subst hd2
                          have hdl : d < s.nds.length := HWk.out.kn _ (getA_mem _ _ _ hg)
                          have HS2 := Lib.hid (HST.out)
                          rw [hg] at HS2
                          dsimp only at HS2
                          rw [HNM.out] at HS2
                          have HG := Lib.hid hg
                          have n1 := (HL3.out.tc.node d hdl).cells.2.1
                          have n7 := (HL3.out.tc.node d hdl).cells.2.2.2.2.2.2.2.1
                          clear hg HDV HST
                          cases hdd : dirK (s.nd d) with
                          | false =>
                            have HF := Lib.hid (HFN.out (by rw [HS2.out, if_pos hdd]; split <;> rfl) wc HB3.out)
                            have hkb : ((s.nd d).kind == 2) = false := hdd
                            have hkn : ¬ (s.nd d).kind = 2 := beq_eq_false_iff_ne.1 hkb
                            clear hdd
                            go_wp2_with fail
                            exact HF.out
                          | true =>
                            have HDD := Lib.hid hdd
                            have hk2 : (s.nd d).kind = 2 := by unfold dirK at hdd; simpa using hdd
                            rw [hk2] at n1
                            have hev : evV (s.nd d) (eb d) = .map (some (eb d)) := by unfold evV; rw [hdd]; rfl
                            rw [hev] at n7
                            have HS3 := Lib.hid (HS2.out)
                            rw [if_neg (show ¬ dirK (s.nd d) = false by rw [hdd]; decide)] at HS3
                            have HNOK := Lib.hid (name_rname nm)
                            rw [HCL.out] at HNOK
                            have HFM : Hid (nameOk nm = false → Q (.returned (.tuple #[.pointer none, .int .i64 5])) wc) := Lib.hid (fun hno => HFN.out (by rw [HS3.out, if_pos hno]; split <;> rfl) wc HB3.out)
                            have HIN := Lib.hid (rIsName_any nm wc)
                            have HIX := Lib.hid (Tryz.strings_IndexByte nm 0 wc)
                            have hz2 : decide (0 ≤ Lib.indexByte nm.data.toList 0) = nm.data.toList.contains 0 := (Lib.contains_iff_indexByte _ _).symm
                            rw [show (0 : Int).toNat.toUInt8 = 0 from rfl] at HIX
                            generalize Lib.indexByte nm.data.toList 0 = zi at HIX hz2
                            generalize nm.data.toList.contains 0 = bz at hz2 HNOK
                            clear hdd hk2 hev HS2
                            cases hrn : rname nm with
                            | false =>
                              have HF := Lib.hid (HFM.out (by rw [HNOK.out, hrn]; rfl))
                              rw [hrn] at HIN
                              clear hrn
                              go_wp2_with fail
                              refine HIN.out.mono ?_
                              rintro r3 w4 ⟨rfl, rfl⟩
                              go_wp2_with fail
                              exact HF.out
                            | true =>
                              rw [hrn] at HIN HNOK
                              clear hrn
                              by_cases h64 : nm.size ≤ 64
                              · have h64z : ¬ (64 : Int) < (nm.size : Int) := by omega
                                rw [decide_eq_true h64] at HNOK
                                cases bz with
                                | true =>
                                  have HF := Lib.hid (HFM.out (by rw [HNOK.out]; rfl))
                                  have hz4 : 0 ≤ zi := by simpa using hz2
                                  clear h64 hz2
                                  go_wp2_with fail
                                  refine HIN.out.mono ?_
                                  rintro r3 w4 ⟨rfl, rfl⟩
                                  go_wp2_with fail
                                  refine HIX.out.mono ?_
                                  rintro r3 w5 ⟨rfl, rfl⟩
                                  go_wp2_with fail
                                  exact HF.out
                                | false =>
                                  have hz4 : zi < 0 := by simpa using hz2
                                  have HNO2 : Hid (nameOk nm = true) := Lib.hid (by rw [HNOK.out]; rfl)
                                  have HS4 := Lib.hid (HS3.out)
                                  rw [if_neg (show ¬ nameOk nm = false by rw [HNO2.out]; decide)] at HS4
                                  obtain ⟨ev, hev⟩ : ∃ ev, ev = (match getA (s.en d) nm with | some j => ptr (nb j) | none => .pointer none) := ⟨_, rfl⟩
                                  have hle2 : (Instr.lookup 53 (.map (some (eb d))) (.string nm) false).run Tryz.prog wc = .ok ev wc := by
                                    rw [hev]
                                    exact HL3.out.byName d hdl HDD.out nm
                                  have HEV := Lib.hid hev
                                  clear h64 hz2 hev HS3 HNOK
                                  cases hge : getA (s.en d) nm with
                                  | some j =>
                                    have HF := Lib.hid (HFN.out (by rw [HS4.out, if_pos (show (getA (s.en d) nm).isSome = true by rw [hge]; rfl)]; split <;> rfl) wc HB3.out)
                                    have he2 : ev = ptr (nb j) := by rw [HEV.out, hge]
                                    subst he2
                                    clear hge
                                    go_wp2_with fail
                                    refine HIN.out.mono ?_
                                    rintro r3 w4 ⟨rfl, rfl⟩
                                    go_wp2_with fail
                                    refine HIX.out.mono ?_
                                    rintro r3 w5 ⟨rfl, rfl⟩
                                    go_wp2_with fail
                                    exact HF.out
                                  | none =>
                                    have HGE := Lib.hid hge
                                    have HS5 := Lib.hid (HS4.out)
                                    rw [if_neg (show ¬ (getA (s.en d) nm).isSome = true by rw [hge]; decide)] at HS5
                                    have he2 : ev = .pointer none := by rw [HEV.out, hge]
                                    subst he2
                                    obtain ⟨sv, hsv⟩ : ∃ sv, sv = (match getA s.known z.same with | some j => ptr (nb j) | none => .pointer none) := ⟨_, rfl⟩
                                    have hls : (Instr.lookup 53 (.map (some kn)) (.string z.same) false).run Tryz.prog wc = .ok sv wc := by
                                      rw [hsv]
                                      exact HL3.out.byPath _
                                    have HSV := Lib.hid hsv
                                    clear hge hsv HS4 HEV HFM HUP HUP2
                                    go_wp2_with fail
                                    refine HIN.out.mono ?_
                                    rintro r3 w4 ⟨rfl, rfl⟩
                                    go_wp2_with fail
                                    refine HIX.out.mono ?_
                                    rintro r3 w5 ⟨rfl, rfl⟩
                                    go_upto_region 30 with fail
                                    clear hlk hle2 hls n1 n7 HIN HIX
                                    have hk1 : IntKind.i64.wrap ((k : Int) + 1) = ((k + 1 : Nat) : Int) := IntWalk.i64_in _ (by omega)
                                    by_cases hsm : z.same = noneB
                                    · have hemp : (z.same.toList == []) = true := by rw [empty_dec, decide_eq_true hsm]
                                      have HRB := Lib.hid (plainB_right z hsm)
                                      have HS6 := Lib.hid (HS5.out)
                                      rw [if_pos hsm] at HS6
                                      have HPL := Lib.hid (plain_any z w5 hzt)
                                      clear hsm HS5 HSV
                                      go_wp2_with fail
                                      refine HPL.out.mono ?_
                                      rintro r3 w6 ⟨rfl, hb6⟩
                                      have HB6 : Hid (Below w.heap.size w w6) := Lib.hid (HB3.out.trans (hb6.mono HB3.out.size))
                                      have HX6 := Lib.hid (HX3.out.keep hb6)
                                      have HL6 := Lib.hid (HL3.out.keep hb6)
                                      clear hb6 x0 x1 x2 x3 x4 x5 x6 x7 hemp
                                      cases hpl : plainB z with
                                      | false =>
                                        have HF := Lib.hid (HFN.out (by rw [HS6.out, if_pos (by rw [HRB.out]; exact hpl)]) w6 HB6.out)
                                        clear hpl
                                        go_wp2_with fail
                                        exact HF.out
                                      | true =>
                                        have HS7 := Lib.hid (HS6.out)
                                        rw [if_neg (show ¬ rightB z = false by rw [HRB.out, hpl]; decide)] at HS7
                                        clear hpl HS6 HRB
                                        have ht6 := HL6.out.tree
                                        obtain ⟨vcs, hv61, hv62⟩ := HL6.out.volr
                                        have t3 : w6.cell? ⟨t, 3, none⟩ = some (.slice (some ⟨vb, 0, none⟩) 1 vc) := by simp [World.cell?, ht6]
                                        have tv0 : w6.cell? ⟨vb, 0, none⟩ = some (ptr vo) := by simp [World.cell?, hv61, hv62]
                                        obtain ⟨x0, x1, x2, x3, x4, x5, x6, x7⟩ := HX6.out.cells
                                        have hvc6 := HL6.out.vcp
                                        have HL6d := Lib.hid (HL6.out.keep (Below.refl _ w6).drew)
                                        have HND := Lib.hid (rnode_any z.kind z.mode z.user z.group z.text t mn s.nds.length vo (.int .i64 ch) (.slice (some ⟨vb, 0, none⟩) 1 vc) _ w6.drew HL6d.out.tree HL6d.out.tc.nodes (getI_range_none nb _) (by have := HWk.out.few; omega))
                                        clear hv61 hv62 ht6
                                        go_upto_region 35 with fail
                                        go_still_tail 17, (by kernel_rfl)
                                        change wpList _ _ _ _ _ w6.drew
                                        go_wp2_with fail
                                        refine HND.out.mono ?_
                                        rintro r3 w7 ⟨e0, y, rfl, ht7, hm7, hy7, he7, hyw, hF7⟩
                                        have hXb : bx < w6.heap.size := (Array.getElem?_eq_some_iff.1 HX6.out).1
                                        have hbt : bx ≠ t := fun e => by
                                          have h1 := HX6.out
                                          have h2 := HL6.out.tree
                                          unfold FeAt at h1
                                          rw [← e, h1] at h2
                                          injection h2 with h2
                                          injection h2 with _ h2
                                          cases h2
                                        have hbm : bx ≠ mn := fun e => map_ne HL6.out.tc.nodes ⟨_, _, HX6.out⟩ e
                                        have hX7 : FeAt w7 bx z := hF7.at (show w6.drew.heap[bx]? = _ from HX6.out) (fun hb => by rcases hb with hb | hb; exact hbt hb; exact hbm hb)
                                        obtain ⟨_, _, _, _, _, _, y6, _⟩ := hX7.cells
                                        have a11 : w7.cell? ⟨y, 11, none⟩ = some (.int .i64 0) := by simp [World.cell?, hy7, rnCells]
                                        have a11f : w7.frozen? ⟨y, 11, none⟩ = false := by simp [World.frozen?, hy7]
                                        have hty : t ≠ y := fun e => by
                                          have := (Array.getElem?_eq_some_iff.1 HL6d.out.tree).1
                                          omega
                                        have hmy : mn ≠ y := fun e => by
                                          have := HL6d.out.tc.nodes.lt
                                          omega
                                        have hby : bx ≠ y := fun e => by
                                          have h1 : w6.heap.size ≤ y := hyw
                                          omega
                                        have hy8 : (w7.setCell ⟨y, 11, none⟩ (.int .i64 z.changed)).heap[y]? = some (.cells (rnCells vo s.nds.length z.node (evV z.node e0) (.pointer none) 0) 55 (0, 0)) := heap_setCell_same w7 y 11 _ _ (.int .i64 z.changed) hy7
                                        have ht8 := (heap_setCell_other w7 ⟨y, 11, none⟩ t (.int .i64 z.changed) hty).trans ht7
                                        have hm8 : MapAt (w7.setCell ⟨y, 11, none⟩ (.int .i64 z.changed)) mn _ := (heap_setCell_other w7 ⟨y, 11, none⟩ mn (.int .i64 z.changed) hmy).trans hm7
                                        have he8 : dirK z.node = true → w6.drew.heap.size ≤ e0 ∧ MapAt (w7.setCell ⟨y, 11, none⟩ (.int .i64 z.changed)) e0 [] := fun hd => by
                                          have hk2 : z.kind = 2 := by
                                            have h5 : (z.kind == 2) = true := hd
                                            simpa using h5
                                          obtain ⟨h1, h2⟩ := he7 hk2
                                          exact ⟨h1, (heap_setCell_other w7 ⟨y, 11, none⟩ e0 (.int .i64 z.changed) (fun e => map_ne h2 ⟨_, _, hy7⟩ e.symm)).trans h2⟩
                                        have hF8 : Fx (fun b => b = t ∨ b = mn ∨ b = y) w6.drew (w7.setCell ⟨y, 11, none⟩ (.int .i64 z.changed)) := (hF7.mono (S' := fun b => b = t ∨ b = mn ∨ b = y) (fun b hb => by rcases hb with hb | hb; exact .inl hb; exact .inr (.inl hb))).trans (Fx.setCell w7 (.inr (.inr rfl)) 11 _)
                                        have HL8 := Lib.hid (HL6.out.add HWk.out HB6.out.size z.node y e0 (.pointer none) 0 hyw (Below.refl _ w6).drew ht8 hm8 hy8 he8 hF8)
                                        have HX8 : Hid (FeAt (w7.setCell ⟨y, 11, none⟩ (.int .i64 z.changed)) bx z) := Lib.hid ((heap_setCell_other w7 ⟨y, 11, none⟩ bx (.int .i64 z.changed) hby).trans hX7)
                                        have HB8 : Hid (Below w.heap.size w (w7.setCell ⟨y, 11, none⟩ (.int .i64 z.changed))) := Lib.hid (HB6.out.drew.trans (hF8.below (fun b hb => by
                                          have h5 := HB6.out.size
                                          have h6 : w6.heap.size ≤ y := hyw
                                          rcases hb with rfl | rfl | rfl
                                          · exact HL6.out.bt
                                          · exact HL6.out.tc.bm
                                          · omega) HB6.out.size))
                                        clear hF8 he8 hm8 ht8 hy8 hby hmy hty hX7 hbm hbt hXb hF7 hyw he7 hy7 hm7 ht7 t3 tv0 x0 x1 x2 x3 x4 x5 x6 x7 hvc6 HND HL6d
                                        go_upto_region 37 with fail
                                        clear a11 a11f y6
                                        generalize w7.setCell ⟨y, 11, none⟩ (.int .i64 z.changed) = w8 at *
                                        have hnew : getA s.known z.path = none := ki_new HKk.out z.path q d HKE.out HG.out (by rw [HNM.out]; exact HNO2.out) (by rw [HNM.out]; exact HGE.out)
                                        have hS2 := step_new HWk.out z.node z.path nm d hdl hnew
                                        rw [← HS7.out] at hS2
                                        obtain ⟨nb2, hnb2⟩ : ∃ f, f = upd nb s.nds.length y := ⟨_, rfl⟩
                                        obtain ⟨eb2, heb2⟩ : ∃ f, f = upd eb s.nds.length e0 := ⟨_, rfl⟩
                                        rw [← hnb2, ← heb2] at HL8
                                        have HNY : Hid (nb2 s.nds.length = y ∧ nb2 d = nb d) := Lib.hid ⟨by rw [hnb2, upd_same], by rw [hnb2, upd_other _ _ hdl]⟩
                                        have HS8 := Lib.hid hS2
                                        have HNEW2 := Lib.hid hnew
                                        clear hnb2 heb2 hS2 hnew HS7
                                        obtain ⟨_, _, _, _, _, _, y6, _⟩ := HX8.out.cells
                                        have ht8 := HL8.out.tree
                                        have t2 : w8.cell? ⟨t, 2, none⟩ = some (.int .i64 ch) := by simp [World.cell?, ht8]
                                        have t2f : w8.frozen? ⟨t, 2, none⟩ = false := by simp [World.frozen?, ht8]
                                        clear ht8
                                        go_still_tail 8, (by kernel_rfl)
                                        change wpList _ _ _ _ _ w8.drew
                                        have HL9d := Lib.hid (HL8.out.keep (Below.refl _ w8).drew)
                                        have HX9d := Lib.hid (show FeAt w8.drew bx z from HX8.out)
                                        have HB9d := Lib.hid (HB8.out.drew)
                                        have u2 : w8.drew.cell? ⟨t, 2, none⟩ = some (.int .i64 ch) := t2
                                        have u2f : w8.drew.frozen? ⟨t, 2, none⟩ = false := t2f
                                        clear y6 t2 t2f HL8 HX8 HB8
                                        generalize w8.drew = wf at *
                                        go_upto_region 38 with fail
                                        have hL10 := HL9d.out.change (max ch z.changed)
                                        have hX10 : FeAt (wf.setCell ⟨t, 2, none⟩ (.int .i64 (max ch z.changed))) bx z := (heap_setCell_other wf ⟨t, 2, none⟩ bx _ (fun hb => by
                                          have h1 := HX9d.out
                                          have h2 := HL9d.out.tree
                                          have hb2 : bx = t := hb
                                          unfold FeAt at h1
                                          rw [← hb2, h1] at h2
                                          injection h2 with h2
                                          injection h2 with _ h2
                                          cases h2)).trans HX9d.out
                                        have HB10 : Hid (Below w.heap.size w (wf.setCell ⟨t, 2, none⟩ (.int .i64 (max ch z.changed)))) := Lib.hid (HB9d.out.setCell HL9d.out.bt _)
                                        clear u2 u2f HL9d HX9d HB9d
                                        generalize wf.setCell ⟨t, 2, none⟩ (.int .i64 (max ch z.changed)) = w10 at *
                                        generalize max ch z.changed = ch2 at *
                                        have HL10 := Lib.hid hL10
                                        obtain ⟨y0, _⟩ := hX10.cells
                                        have hgs : getS (entL nb2 s.known) z.path = none := by rw [getS_ent, HNEW2.out]; rfl
                                        obtain ⟨w11, hmu, hw11⟩ := put_s (P := Tryz.prog) rmapE undS (show MapAt w10 kn (sL (entL nb2 s.known)) from HL10.out.tc.known) z.path (ptr y) hgs
                                        have hF11 : Fx (fun b => b = kn) w10 w11 := by rw [hw11]; exact Fx.hset (S := fun b => b = kn) _ rfl _
                                        have HL11 : Hid (RL w11 w.heap.size ⟨s.nds ++ [z.node], s.ents ++ [[]], s.known ++ [(z.path, s.nds.length)]⟩ t mn kn nb2 eb2 ch2 vb vo vc) := Lib.hid (HL10.out.turn hF11 (fun b hb => by
                                          subst hb
                                          exact RMN.map HL10.out.tc.known) (by
                                          rw [hw11]
                                          exact HL10.out.tc.know (rnodeOk vo) z.path s.nds.length (by rw [HNY.out.1])) rfl rfl)
                                        have HB11 : Hid (Below w.heap.size w w11) := Lib.hid (HB10.out.trans (hF11.below (fun b hb => by subst hb; exact HL10.out.tc.bk) HB10.out.size))
                                        clear hF11 hw11 hgs hX10 hL10 HNEW2
                                        obtain ⟨s2, hs2⟩ : ∃ s2 : TS, s2 = ⟨s.nds ++ [z.node], s.ents ++ [[]], s.known ++ [(z.path, s.nds.length)]⟩ := ⟨_, rfl⟩
                                        have hl2 : s2.nds.length = s.nds.length + 1 := by rw [hs2]; simp
                                        have hd2 : d < s2.nds.length := by omega
                                        have hn2 : s.nds.length < s2.nds.length := by omega
                                        have hdd2 : dirK (s2.nd d) = true := by
                                          have : s2.nd d = s.nd d := by rw [hs2]; exact nd_old _ _ _ hdl
                                          rw [this]
                                          exact HDD.out
                                        have hen2 : s2.en d = s.en d := by
                                          rw [hs2]
                                          unfold TS.en
                                          rw [List.getD, List.getElem?_append_left (by rw [HWk.out.len]; exact hdl)]
                                          rfl
                                        rw [← hs2] at HL11
                                        have hP := rput_any vo w11 w.heap.size s2 mn kn nb2 eb2 HL11.out.tc (by rw [hs2]; simp [HWk.out.len]) d hd2 hdd2 nm s.nds.length hn2 (by rw [hen2]; exact HGE.out) (ptr t)
                                        rw [HNY.out.1, HNY.out.2] at hP
                                        have HP := Lib.hid hP
                                        have HN2 : Hid (d < s2.nds.length ∧ s.nds.length < s2.nds.length ∧ dirK (s2.nd d) = true) := Lib.hid ⟨hd2, hn2, hdd2⟩
                                        have HS9 : Hid (stepT s z = some ⟨s2.nds, s2.ents.set d (s2.en d ++ [(nm, s.nds.length)]), s2.known⟩) := Lib.hid (by rw [HS8.out, hs2])
                                        clear hP hl2 hd2 hn2 hdd2 hen2 HS8 hs2
                                        go_upto_region 39 with fail
                                        clear hmu y0
                                        go_wp2_with fail
                                        refine HP.out.mono ?_
                                        rintro r3 w12 ⟨rfl, hT12, hF12⟩
                                        have hF12' : Fx (fun b => b = eb2 d ∨ b = nb2 s.nds.length) w11 w12 := by rw [HNY.out.1]; exact hF12
                                        have HL12 := Lib.hid (HL11.out.entry (s' := ⟨s2.nds, s2.ents.set d (s2.en d ++ [(nm, s.nds.length)]), s2.known⟩) HN2.out.1 HN2.out.2.2 HN2.out.2.1 rfl hT12 hF12')
                                        have HB12 : Hid (Below w.heap.size w w12) := Lib.hid (HB11.out.trans (HL11.out.above HB11.out.size HN2.out.1 HN2.out.2.2 HN2.out.2.1 hF12'))
                                        have HLT12 : Hid (loadT s0 (r.take (k + 1)) = some ⟨s2.nds, s2.ents.set d (s2.en d ++ [(nm, s.nds.length)]), s2.known⟩) := Lib.hid (by rw [loadT_next HLT.out hkl, HZ.out]; exact HS9.out)
                                        have HW12 := Lib.hid (wf_step HWk.out HS9.out)
                                        have HK12 := Lib.hid (ki_step HWk.out HKk.out HS9.out)
                                        clear hT12 hF12 hF12'
                                        go_wp2_with fail
                                        exact ⟨⟨k + 1, _, nb2, eb2, ch2, by omega, rfl, HLT12, HL12, HW12, HK12, HB12⟩, by simp [intOf]; omega⟩
                                    · have hemp : (z.same.toList == []) = false := by rw [empty_dec, decide_eq_false hsm]
                                      have HRQ := Lib.hid (right_fields z hsm)
                                      have htx : (z.text.toList == []) = decide (z.text = noneB) := empty_dec _
                                      have HS6 : Hid (stepT s z = if rightB z = false then none else match getA s.known z.same with
                                        | none => none
                                        | some j => if dirK (s.nd j) then none else some ⟨s.nds, s.ents.set d (s.en d ++ [(nm, j)]), s.known⟩) := Lib.hid (by rw [HS5.out, if_neg hsm]; rfl)
                                      clear hsm HS5
                                      cases hgs : getA s.known z.same with
                                      | none =>
                                        have HF := Lib.hid (HFN.out (by rw [HS6.out, hgs]; split <;> rfl) w5 HB3.out)
                                        have hs2 : sv = .pointer none := by rw [HSV.out, hgs]
                                        subst hs2
                                        clear hgs
                                        go_wp2_with fail
                                        exact HF.out
                                      | some j =>
                                        have hs2 : sv = ptr (nb j) := by rw [HSV.out, hgs]
                                        subst hs2
                                        have hjl : j < s.nds.length := HWk.out.kn _ (getA_mem _ _ _ hgs)
                                        have HS7 := Lib.hid (HS6.out)
                                        rw [hgs] at HS7
                                        dsimp only at HS7
                                        have m1 := (HL3.out.tc.node j hjl).cells.2.1
                                        clear hgs HSV HS6
                                        cases hdj : dirK (s.nd j) with
                                        | true =>
                                          have HF := Lib.hid (HFN.out (by rw [HS7.out, if_pos hdj]; split <;> rfl) w5 HB3.out)
                                          have hk2 : (s.nd j).kind = 2 := by unfold dirK at hdj; simpa using hdj
                                          rw [hk2] at m1
                                          clear hdj hk2
                                          go_wp2_with fail
                                          exact HF.out
                                        | false =>
                                          have hkb : ((s.nd j).kind == 2) = false := hdj
                                          have hkn : ¬ (s.nd j).kind = 2 := beq_eq_false_iff_ne.1 hkb
                                          have HS8 := Lib.hid (HS7.out)
                                          rw [if_neg (show ¬ dirK (s.nd j) = true by rw [hdj]; decide)] at HS8
                                          clear hdj HS7
                                          obtain ⟨rb, hrb⟩ : ∃ rb, rb = rightB z := ⟨_, rfl⟩
                                          have HRT : Hid (rightB z = rb) := Lib.hid hrb.symm
                                          clear hrb
                                          go_upto_region 31 with fail
                                          go_cut [198] from 181 to 198 (fun s198 wx => s198 = .bool (!rb) ∧ wx = w5)
                                          case first =>
                                            have HRR : Hid (rb = (decide (z.kind = 0) && (decide (z.mode = 0) && (decide (z.user = 0) && (decide (z.group = 0) && (decide (z.text = noneB) && decide (z.changed = 0))))))) := Lib.hid (by rw [← HRT.out]; exact HRQ.out)
                                            have G0 : Hid (¬ z.kind = 0 → rb = false) := Lib.hid (fun h => by rw [HRR.out, decide_eq_false h]; rfl)
                                            have G1 : Hid (¬ z.mode = 0 → rb = false) := Lib.hid (fun h => by rw [HRR.out, decide_eq_false h]; simp)
                                            have G2 : Hid (¬ z.user = 0 → rb = false) := Lib.hid (fun h => by rw [HRR.out, decide_eq_false h]; simp)
                                            have G3 : Hid (¬ z.group = 0 → rb = false) := Lib.hid (fun h => by rw [HRR.out, decide_eq_false h]; simp)
                                            have G4 : Hid (¬ z.text = noneB → rb = false) := Lib.hid (fun h => by rw [HRR.out, decide_eq_false h]; simp)
                                            have G5 : Hid (¬ z.changed = 0 → rb = false) := Lib.hid (fun h => by rw [HRR.out, decide_eq_false h]; simp)
                                            have G6 : Hid (z.kind = 0 → z.mode = 0 → z.user = 0 → z.group = 0 → z.text = noneB → z.changed = 0 → rb = true) := Lib.hid (fun a1 a2 a3 a4 a5 a6 => by rw [HRR.out, decide_eq_true a1, decide_eq_true a2, decide_eq_true a3, decide_eq_true a4, decide_eq_true a5, decide_eq_true a6]; rfl)
                                            clear HRR
                                            go_wp2_with fail
                                            all_goals go_meet
                                            all_goals (first | exact ⟨by rw [G0.out (by with_reducible assumption)]; rfl, rfl⟩ | exact ⟨by rw [G1.out (by with_reducible assumption)]; rfl, rfl⟩ | exact ⟨by rw [G2.out (by with_reducible assumption)]; rfl, rfl⟩ | exact ⟨by rw [G3.out (by with_reducible assumption)]; rfl, rfl⟩ | exact ⟨by rw [G4.out (by with_reducible assumption)]; rfl, rfl⟩ | exact ⟨by rw [G5.out (by with_reducible assumption)]; rfl, rfl⟩ | exact ⟨by rw [G6.out (by with_reducible assumption) (by with_reducible assumption) (by with_reducible assumption) (by with_reducible assumption) (by with_reducible assumption) (by with_reducible assumption)]; rfl, rfl⟩)
                                          case rest =>
                                          obtain ⟨rfl, rfl⟩ := hcut
                                          cases rb with
                                          | false =>
                                            have HF := Lib.hid (HFN.out (by rw [HS8.out, if_pos HRT.out]) wc HB3.out)
                                            go_wp2_with fail
                                            exact HF.out
                                          | true =>
                                            have hrt := HRT.out
                                            have HS9 := Lib.hid (HS8.out)
                                            rw [if_neg (show ¬ rightB z = false by rw [hrt]; decide)] at HS9
                                            have HP := Lib.hid (rput_any vo wc w.heap.size s mn kn nb eb HL3.out.tc HWk.out.len d hdl HDD.out nm j hjl HGE.out (ptr t))
                                            clear hrt HS8
                                            go_wp2_with fail
                                            refine HP.out.mono ?_
                                            rintro r3 w6 ⟨rfl, hT6, hF6⟩
                                            have HL6 := Lib.hid (HL3.out.entry (s' := ⟨s.nds, s.ents.set d (s.en d ++ [(nm, j)]), s.known⟩) hdl HDD.out hjl rfl hT6 hF6)
                                            have HB6 : Hid (Below w.heap.size w w6) := Lib.hid (HB3.out.trans (HL3.out.above HB3.out.size hdl HDD.out hjl hF6))
                                            have HLT6 : Hid (loadT s0 (r.take (k + 1)) = some ⟨s.nds, s.ents.set d (s.en d ++ [(nm, j)]), s.known⟩) := Lib.hid (by rw [loadT_next HLT.out hkl, HZ.out]; exact HS9.out)
                                            have HW6 := Lib.hid (wf_step HWk.out HS9.out)
                                            have HK6 := Lib.hid (ki_step HWk.out HKk.out HS9.out)
                                            clear hT6 hF6
                                            go_wp2_with fail
                                            exact ⟨⟨k + 1, _, nb, eb, ch, by omega, rfl, HLT6, HL6, HW6, HK6, HB6⟩, by simp [intOf]; omega⟩
                              · have HF := Lib.hid (HFM.out (by rw [HNOK.out, decide_eq_false h64]; rfl))
                                have h64z : (64 : Int) < (nm.size : Int) := by omega
                                clear h64
                                go_wp2_with fail
                                refine HIN.out.mono ?_
                                rintro r3 w4 ⟨rfl, rfl⟩
                                go_wp2_with fail
                                exact HF.out
                  · obtain rfl : k = r.length := by omega
                    have HLS : Hid (loadT s0 r = some s) := Lib.hid (by have := HLT.out; rwa [List.take_length] at this)
                    have hal2 : (allT s).length ≤ 4611686018427387903 := by
                      have h1 := dump_len HWk.out (s.nds.length + 1) slash 0 ([], []) HWk.out.pos
                      have h2 := rest_le HWk.out []
                      have h3 : s.nds.length * r.length ≤ 3001 * 3000 := Nat.mul_le_mul (by have := HWk.out.few; omega) (by omega)
                      unfold allT
                      have h4 : (dumpT s (s.nds.length + 1) slash 0 ([], [])).1.length + restN s (dumpT s (s.nds.length + 1) slash 0 ([], [])).2 ≤ 0 + restN s [] + 1 := h1
                      omega
                    have HV2 : Hid (FL w (.slice (some ⟨b, off, none⟩) lc c) l) := Lib.hid (by
                      have h := HV.out
                      rwa [← HLEN.out] at h)
                    have hll : l.length ≤ 4611686018427387903 := by have := HLEN.out; omega
                    have tt := HLk.out.tree
                    obtain ⟨vcs, hv61, hv62⟩ := HLk.out.volr
                    have tvo := HLk.out.volb
                    have hvcp := HLk.out.vcp
                    have t3 : wr.cell? ⟨t, 3, none⟩ = some (.slice (some ⟨vb, 0, none⟩) 1 vc) := by simp [World.cell?, tt]
                    have tv0 : wr.cell? ⟨vb, 0, none⟩ = some (ptr vo) := by simp [World.cell?, hv61, hv62]
                    have tv1 : wr.cell? ⟨vo, 1, none⟩ = some (.int .i64 1048576) := by simp [World.cell?, tvo]
                    have HSt : Hid (∀ W, Below wr.heap.size wr W → W.cell? ⟨t, 3, none⟩ = some (.slice (some ⟨vb, 0, none⟩) 1 vc) ∧ W.cell? ⟨vb, 0, none⟩ = some (ptr vo) ∧ W.cell? ⟨vo, 1, none⟩ = some (.int .i64 1048576)) := Lib.hid (fun W hb => by
                      have k := fun (p : Addr) x (hx : wr.cell? p = some x) => (hb.cell (p := p) (World.block_lt_of_cell? wr _ hx)).trans hx
                      exact ⟨k _ _ t3, k _ _ tv0, k _ _ tv1⟩)
                    have HUS := Lib.hid (rused_any wr.drew w.heap.size s t mn kn nb eb ch vb vo vc (HLk.out.keep (Below.refl _ wr).drew) r.length HWk.out (by omega))
                    have hS : wr.drew.cell? ⟨t, 3, none⟩ = some (.slice (some ⟨vb, 0, none⟩) 1 vc) ∧ wr.drew.cell? ⟨vb, 0, none⟩ = some (ptr vo) ∧ wr.drew.cell? ⟨vo, 1, none⟩ = some (.int .i64 1048576) := HSt.out _ (Below.refl _ wr).drew
                    clear tt hv61 hv62 tvo t3 tv0 tv1
                    go_upto_region 41 with fail
                    by_cases hu : usedT s ≤ 1048576
                    · have hzb : ¬ (1048576 : Int) < (usedT s : Int) := by omega
                      have HU := Lib.hid hu
                      clear hu
                      refine wp_region_tailB 24 99 (fun W => W.cell? ⟨t, 3, none⟩ = some (.slice (some ⟨vb, 0, none⟩) 1 vc) ∧ W.cell? ⟨vb, 0, none⟩ = some (ptr vo) ∧ W.cell? ⟨vo, 1, none⟩ = some (.int .i64 1048576)) (by kernel_rfl) (by decide) (by kernel_rfl) ?_
                      intro hTB
                      refine wpAnyT_take 99 0 (v := ?_) hTB rfl (by kernel_rfl) (fun _ _ _ h => h) (Or.inl ⟨by rfl, fun W hW => ?_⟩) (by with_reducible assumption) ?_
                      rotate_left
                      focus ((try dsimp only at hW); (try obtain ⟨hW0, hW1, hW2⟩ := hW); go_simp; try with_reducible rfl)
                      refine wpAnyT_take 99 1 (v := ?_) hTB rfl (by kernel_rfl) (fun _ _ _ h => h) (Or.inl ⟨by rfl, fun W hW => ?_⟩) (by with_reducible assumption) ?_
                      rotate_left
                      focus ((try dsimp only at hW); (try obtain ⟨hW0, hW1, hW2⟩ := hW); go_simp; try with_reducible rfl)
                      refine wpAnyT_take 99 2 (v := ?_) hTB rfl (by kernel_rfl) (fun _ _ _ h => h) (Or.inl ⟨by rfl, fun W hW => ?_⟩) (by with_reducible assumption) ?_
                      rotate_left
                      focus ((try dsimp only at hW); (try obtain ⟨hW0, hW1, hW2⟩ := hW); go_simp; try with_reducible rfl)
                      refine wpAnyT_take 99 3 (v := ?_) hTB rfl (by kernel_rfl) (fun _ _ _ h => h) (Or.inl ⟨by rfl, fun W hW => ?_⟩) (by with_reducible assumption) ?_
                      rotate_left
                      focus ((try dsimp only at hW); (try obtain ⟨hW0, hW1, hW2⟩ := hW); go_simp; try with_reducible rfl)
                      refine wpAnyT_take 99 4 (v := ?_) hTB rfl (by kernel_rfl) (fun _ _ _ h => h) (Or.inl ⟨by rfl, fun W hW => ?_⟩) (by with_reducible assumption) ?_
                      rotate_left
                      focus ((try dsimp only at hW); (try obtain ⟨hW0, hW1, hW2⟩ := hW); go_simp; try with_reducible rfl)
                      refine wpAnyT_take 99 5 (v := ?_) hTB rfl (by kernel_rfl) (fun _ _ _ h => h) (Or.inl ⟨by rfl, fun W hW => ?_⟩) (by with_reducible assumption) ?_
                      rotate_left
                      focus ((try dsimp only at hW); (try obtain ⟨hW0, hW1, hW2⟩ := hW); go_simp; try with_reducible rfl)
                      refine wpAnyT_take 99 6 (v := ?_) hTB rfl (by kernel_rfl) (fun _ _ _ h => h) (Or.inl ⟨by rfl, fun W hW => ?_⟩) (by with_reducible assumption) ?_
                      rotate_left
                      focus ((try dsimp only at hW); (try obtain ⟨hW0, hW1, hW2⟩ := hW); go_simp; try with_reducible rfl)
                      refine wpAnyT_take 99 8 (v := ?_) hTB rfl (by kernel_rfl) (fun _ _ _ h => h) (Or.inl ⟨by rfl, fun W hW => ?_⟩) (by with_reducible assumption) ?_
                      rotate_left
                      focus ((try dsimp only at hW); (try obtain ⟨hW0, hW1, hW2⟩ := hW); go_simp; try with_reducible rfl)
                      refine wpAnyT_take 99 9 (v := ?_) hTB rfl (by kernel_rfl) (fun _ _ _ h => h) (Or.inl ⟨by rfl, fun W hW => ?_⟩) (by with_reducible assumption) ?_
                      rotate_left
                      focus ((try dsimp only at hW); (try obtain ⟨hW0, hW1, hW2⟩ := hW); go_simp; try with_reducible rfl)
                      refine wpAnyT_take 99 10 (v := ?_) hTB rfl (by kernel_rfl) (fun _ _ _ h => h) (Or.inl ⟨by rfl, fun W hW => ?_⟩) (by with_reducible assumption) ?_
                      rotate_left
                      focus ((try dsimp only at hW); (try obtain ⟨hW0, hW1, hW2⟩ := hW); go_simp; try with_reducible rfl)
                      refine wpAnyT_take 99 11 (v := ?_) hTB rfl (by kernel_rfl) (fun _ _ _ h => h) (Or.inl ⟨by rfl, fun W hW => ?_⟩) (by with_reducible assumption) ?_
                      rotate_left
                      focus ((try dsimp only at hW); (try obtain ⟨hW0, hW1, hW2⟩ := hW); go_simp; try with_reducible rfl)
                      refine wpAnyT_take 99 12 (v := ?_) hTB rfl (by kernel_rfl) (fun _ _ _ h => h) (Or.inl ⟨by rfl, fun W hW => ?_⟩) (by with_reducible assumption) ?_
                      rotate_left
                      focus ((try dsimp only at hW); (try obtain ⟨hW0, hW1, hW2⟩ := hW); go_simp; try with_reducible rfl)
                      refine wpAnyT_take 99 13 (v := ?_) hTB rfl (by kernel_rfl) (fun _ _ _ h => h) (Or.inl ⟨by rfl, fun W hW => ?_⟩) (by with_reducible assumption) ?_
                      rotate_left
                      focus ((try dsimp only at hW); (try obtain ⟨hW0, hW1, hW2⟩ := hW); go_simp; try with_reducible rfl)
                      refine wpAnyT_take 99 14 (v := ?_) hTB rfl (by kernel_rfl) (fun _ _ _ h => h) (Or.inl ⟨by rfl, fun W hW => ?_⟩) (by with_reducible assumption) ?_
                      rotate_left
                      focus ((try dsimp only at hW); (try obtain ⟨hW0, hW1, hW2⟩ := hW); go_simp; try with_reducible rfl)
                      refine wpAnyT_take 99 15 (v := ?_) hTB rfl (by kernel_rfl) (fun _ _ _ h => h) (Or.inl ⟨by rfl, fun W hW => ?_⟩) (by with_reducible assumption) ?_
                      rotate_left
                      focus ((try dsimp only at hW); (try obtain ⟨hW0, hW1, hW2⟩ := hW); go_simp; try with_reducible rfl)
                      refine wpAnyT_take 99 16 (v := ?_) hTB rfl (by kernel_rfl) (fun _ _ _ h => h) (Or.inl ⟨by rfl, fun W hW => ?_⟩) (by with_reducible assumption) ?_
                      rotate_left
                      focus ((try dsimp only at hW); (try obtain ⟨hW0, hW1, hW2⟩ := hW); go_simp; try with_reducible rfl)
                      simp only [Act.put, List.getElem_toArray, List.getElem_cons_zero, List.getElem_cons_succ, List.setIfInBounds_toArray, List.set_cons_zero, List.set_cons_succ]
                      refine wpAnyT_one 7 (by kernel_rfl) (by decide) ?_
                      refine wpOp_at rfl rfl (fun K hK => ?_)
                      go_simp
                      refine HUS.out.mono ?_
                      rintro e2 w2 ⟨rfl, hb2⟩
                      have hb2w : Below wr.heap.size wr w2 := ((Below.refl _ wr).drew).trans hb2
                      have hS2 := HSt.out _ hb2w
                      have HB2w := Lib.hid hb2w
                      refine hK.out _ _ ⟨hS2, ?_⟩
                      clear hK K hS hb2 hb2w
                      try simp only [Act.put, List.getElem_toArray, List.getElem_cons_zero, List.getElem_cons_succ, List.setIfInBounds_toArray, List.set_cons_zero, List.set_cons_succ]
                      refine wpAnyT_take 99 17 (v := .bool false) hTB rfl (by kernel_rfl) (fun _ _ _ h => h) (Or.inl ⟨by rfl, fun W hW => ?_⟩) (by with_reducible assumption) ?_
                      · (go_simp; try (rw [decide_eq_false hzb]))
                      simp only [Act.put, List.getElem_toArray, List.getElem_cons_zero, List.getElem_cons_succ, List.setIfInBounds_toArray, List.set_cons_zero, List.set_cons_succ]
                      refine wpAnyT_take 99 18 (v := ?_) hTB rfl (by kernel_rfl) (fun _ _ _ h => h) (Or.inl ⟨by rfl, fun W hW => ?_⟩) (by with_reducible assumption) ?_
                      rotate_left
                      focus ((try dsimp only at hW); (try obtain ⟨hW0, hW1, hW2⟩ := hW); go_simp; try with_reducible rfl)
                      refine wpAnyT_take 99 19 (v := ?_) hTB rfl (by kernel_rfl) (fun _ _ _ h => h) (Or.inl ⟨by rfl, fun W hW => ?_⟩) (by with_reducible assumption) ?_
                      rotate_left
                      focus ((try dsimp only at hW); (try obtain ⟨hW0, hW1, hW2⟩ := hW); go_simp; try with_reducible rfl)
                      refine wpAnyT_take 99 21 (v := ?_) hTB rfl (by kernel_rfl) (fun _ _ _ h => h) (Or.inl ⟨by rfl, fun W hW => ?_⟩) (by with_reducible assumption) ?_
                      rotate_left
                      focus ((try dsimp only at hW); (try obtain ⟨hW0, hW1, hW2⟩ := hW); go_simp; try with_reducible rfl)
                      simp only [Act.put, List.getElem_toArray, List.getElem_cons_zero, List.getElem_cons_succ, List.setIfInBounds_toArray, List.set_cons_zero, List.set_cons_succ]
                      have HDU := Lib.hid (rdump_any w2 w.heap.size s t mn kn nb eb ch vb vo vc (HLk.out.keep HB2w.out) r.length HWk.out (by omega))
                      refine wpAnyT_one 20 (by kernel_rfl) (by decide) ?_
                      refine wpOp_atG rfl (by rfl) (fun K hK => ?_)
                      go_simp
                      refine HDU.out.mono ?_
                      rintro e2 w3 ⟨v2, rfl, hfl3, hb3⟩
                      have hb3w : Below wr.heap.size wr w3 := HB2w.out.trans (hb3.mono HB2w.out.size)
                      have hS3 := HSt.out _ hb3w
                      have HB3w := Lib.hid hb3w
                      have HB3 : Hid (Below w.heap.size w w3) := Lib.hid (HBk.out.trans (hb3w.mono HBk.out.size))
                      have HEQ := Lib.hid (equal_any (allT s) l v2 _ w3 hfl3 (HV2.out.keep HB3.out) hal2 hll)
                      refine hK.out _ _ ⟨hS3, ?_⟩
                      clear hK K hS2 hb3 hb3w hfl3
                      try simp only [Act.put, List.getElem_toArray, List.getElem_cons_zero, List.getElem_cons_succ, List.setIfInBounds_toArray, List.set_cons_zero, List.set_cons_succ]
                      refine wpAnyT_one 22 (by kernel_rfl) (by decide) ?_
                      refine wpOp_atG rfl (by rfl) (fun K hK => ?_)
                      go_simp
                      refine HEQ.out.mono ?_
                      rintro e2 w4 ⟨rfl, hb4⟩
                      have hS4 := HSt.out _ (HB3w.out.trans (hb4.mono HB3w.out.size))
                      have HB4 : Hid (Below w.heap.size w w4) := Lib.hid (HB3.out.trans (hb4.mono HB3.out.size))
                      refine hK.out _ _ ⟨hS4, ?_⟩
                      clear hK K hS3 hb4
                      try simp only [Act.put, List.getElem_toArray, List.getElem_cons_zero, List.getElem_cons_succ, List.setIfInBounds_toArray, List.set_cons_zero, List.set_cons_succ]
                      obtain ⟨eq, heq⟩ : ∃ b, b = decide (allT s = l) := ⟨_, rfl⟩
                      rw [← heq]
                      have HEB := Lib.hid heq
                      clear heq
                      refine wpAnyT_take 99 23 (v := ?_) hTB rfl (by kernel_rfl) (fun _ _ _ h => h) (Or.inl ⟨by rfl, fun W hW => ?_⟩) (by with_reducible assumption) ?_
                      rotate_left
                      focus ((try dsimp only at hW); (try obtain ⟨hW0, hW1, hW2⟩ := hW); go_simp; try with_reducible rfl)
                      simp only [Act.put, List.getElem_toArray, List.getElem_cons_zero, List.getElem_cons_succ, List.setIfInBounds_toArray, List.set_cons_zero, List.set_cons_succ]
                      refine ⟨by kernel_rfl, ?_⟩
                      simp only [List.drop_succ_cons, List.drop_zero]
                      clear hTB hS4
                      cases eq with
                      | true =>
                        have hall : allT s = l := of_decide_eq_true HEB.out.symm
                        have HF : Hid (Q (.returned (.tuple #[ptr t, .int .i64 0])) w4) := Lib.hid (by
                          rw [HQ.out]
                          exact RLoaded.no HB4.out (by rw [HANS.out, HLS.out]; dsimp only; rw [if_pos ⟨hall, HU.out⟩]))
                        clear hall
                        go_wp2_with fail
                        exact HF.out
                      | false =>
                        have hall : ¬ allT s = l := of_decide_eq_false HEB.out.symm
                        have HF := Lib.hid (HNO.out 5 w4 (by rw [HANS.out, HLS.out]; dsimp only; rw [if_neg (fun h => hall h.1)]) HB4.out)
                        clear hall
                        go_wp2_with fail
                        exact HF.out
                    · have hzb : (1048576 : Int) < (usedT s : Int) := by omega
                      have HAN5 : Hid (answerT l = 5) := Lib.hid (by rw [HANS.out, HLS.out]; dsimp only; rw [if_neg (fun h => hu h.2)])
                      clear hu
                      refine wp_region_tailB 24 99 (fun W => W.cell? ⟨t, 3, none⟩ = some (.slice (some ⟨vb, 0, none⟩) 1 vc) ∧ W.cell? ⟨vb, 0, none⟩ = some (ptr vo) ∧ W.cell? ⟨vo, 1, none⟩ = some (.int .i64 1048576)) (by kernel_rfl) (by decide) (by kernel_rfl) ?_
                      intro hTB
                      refine wpAnyT_take 99 0 (v := ?_) hTB rfl (by kernel_rfl) (fun _ _ _ h => h) (Or.inl ⟨by rfl, fun W hW => ?_⟩) (by with_reducible assumption) ?_
                      rotate_left
                      focus ((try dsimp only at hW); (try obtain ⟨hW0, hW1, hW2⟩ := hW); go_simp; try with_reducible rfl)
                      refine wpAnyT_take 99 1 (v := ?_) hTB rfl (by kernel_rfl) (fun _ _ _ h => h) (Or.inl ⟨by rfl, fun W hW => ?_⟩) (by with_reducible assumption) ?_
                      rotate_left
                      focus ((try dsimp only at hW); (try obtain ⟨hW0, hW1, hW2⟩ := hW); go_simp; try with_reducible rfl)
                      refine wpAnyT_take 99 2 (v := ?_) hTB rfl (by kernel_rfl) (fun _ _ _ h => h) (Or.inl ⟨by rfl, fun W hW => ?_⟩) (by with_reducible assumption) ?_
                      rotate_left
                      focus ((try dsimp only at hW); (try obtain ⟨hW0, hW1, hW2⟩ := hW); go_simp; try with_reducible rfl)
                      refine wpAnyT_take 99 3 (v := ?_) hTB rfl (by kernel_rfl) (fun _ _ _ h => h) (Or.inl ⟨by rfl, fun W hW => ?_⟩) (by with_reducible assumption) ?_
                      rotate_left
                      focus ((try dsimp only at hW); (try obtain ⟨hW0, hW1, hW2⟩ := hW); go_simp; try with_reducible rfl)
                      refine wpAnyT_take 99 4 (v := ?_) hTB rfl (by kernel_rfl) (fun _ _ _ h => h) (Or.inl ⟨by rfl, fun W hW => ?_⟩) (by with_reducible assumption) ?_
                      rotate_left
                      focus ((try dsimp only at hW); (try obtain ⟨hW0, hW1, hW2⟩ := hW); go_simp; try with_reducible rfl)
                      refine wpAnyT_take 99 5 (v := ?_) hTB rfl (by kernel_rfl) (fun _ _ _ h => h) (Or.inl ⟨by rfl, fun W hW => ?_⟩) (by with_reducible assumption) ?_
                      rotate_left
                      focus ((try dsimp only at hW); (try obtain ⟨hW0, hW1, hW2⟩ := hW); go_simp; try with_reducible rfl)
                      refine wpAnyT_take 99 6 (v := ?_) hTB rfl (by kernel_rfl) (fun _ _ _ h => h) (Or.inl ⟨by rfl, fun W hW => ?_⟩) (by with_reducible assumption) ?_
                      rotate_left
                      focus ((try dsimp only at hW); (try obtain ⟨hW0, hW1, hW2⟩ := hW); go_simp; try with_reducible rfl)
                      refine wpAnyT_take 99 8 (v := ?_) hTB rfl (by kernel_rfl) (fun _ _ _ h => h) (Or.inl ⟨by rfl, fun W hW => ?_⟩) (by with_reducible assumption) ?_
                      rotate_left
                      focus ((try dsimp only at hW); (try obtain ⟨hW0, hW1, hW2⟩ := hW); go_simp; try with_reducible rfl)
                      refine wpAnyT_take 99 9 (v := ?_) hTB rfl (by kernel_rfl) (fun _ _ _ h => h) (Or.inl ⟨by rfl, fun W hW => ?_⟩) (by with_reducible assumption) ?_
                      rotate_left
                      focus ((try dsimp only at hW); (try obtain ⟨hW0, hW1, hW2⟩ := hW); go_simp; try with_reducible rfl)
                      refine wpAnyT_take 99 10 (v := ?_) hTB rfl (by kernel_rfl) (fun _ _ _ h => h) (Or.inl ⟨by rfl, fun W hW => ?_⟩) (by with_reducible assumption) ?_
                      rotate_left
                      focus ((try dsimp only at hW); (try obtain ⟨hW0, hW1, hW2⟩ := hW); go_simp; try with_reducible rfl)
                      refine wpAnyT_take 99 11 (v := ?_) hTB rfl (by kernel_rfl) (fun _ _ _ h => h) (Or.inl ⟨by rfl, fun W hW => ?_⟩) (by with_reducible assumption) ?_
                      rotate_left
                      focus ((try dsimp only at hW); (try obtain ⟨hW0, hW1, hW2⟩ := hW); go_simp; try with_reducible rfl)
                      refine wpAnyT_take 99 12 (v := ?_) hTB rfl (by kernel_rfl) (fun _ _ _ h => h) (Or.inl ⟨by rfl, fun W hW => ?_⟩) (by with_reducible assumption) ?_
                      rotate_left
                      focus ((try dsimp only at hW); (try obtain ⟨hW0, hW1, hW2⟩ := hW); go_simp; try with_reducible rfl)
                      refine wpAnyT_take 99 13 (v := ?_) hTB rfl (by kernel_rfl) (fun _ _ _ h => h) (Or.inl ⟨by rfl, fun W hW => ?_⟩) (by with_reducible assumption) ?_
                      rotate_left
                      focus ((try dsimp only at hW); (try obtain ⟨hW0, hW1, hW2⟩ := hW); go_simp; try with_reducible rfl)
                      refine wpAnyT_take 99 14 (v := ?_) hTB rfl (by kernel_rfl) (fun _ _ _ h => h) (Or.inl ⟨by rfl, fun W hW => ?_⟩) (by with_reducible assumption) ?_
                      rotate_left
                      focus ((try dsimp only at hW); (try obtain ⟨hW0, hW1, hW2⟩ := hW); go_simp; try with_reducible rfl)
                      refine wpAnyT_take 99 15 (v := ?_) hTB rfl (by kernel_rfl) (fun _ _ _ h => h) (Or.inl ⟨by rfl, fun W hW => ?_⟩) (by with_reducible assumption) ?_
                      rotate_left
                      focus ((try dsimp only at hW); (try obtain ⟨hW0, hW1, hW2⟩ := hW); go_simp; try with_reducible rfl)
                      refine wpAnyT_take 99 16 (v := ?_) hTB rfl (by kernel_rfl) (fun _ _ _ h => h) (Or.inl ⟨by rfl, fun W hW => ?_⟩) (by with_reducible assumption) ?_
                      rotate_left
                      focus ((try dsimp only at hW); (try obtain ⟨hW0, hW1, hW2⟩ := hW); go_simp; try with_reducible rfl)
                      simp only [Act.put, List.getElem_toArray, List.getElem_cons_zero, List.getElem_cons_succ, List.setIfInBounds_toArray, List.set_cons_zero, List.set_cons_succ]
                      refine wpAnyT_one 7 (by kernel_rfl) (by decide) ?_
                      refine wpOp_at rfl rfl (fun K hK => ?_)
                      go_simp
                      refine HUS.out.mono ?_
                      rintro e2 w2 ⟨rfl, hb2⟩
                      have hb2w : Below wr.heap.size wr w2 := ((Below.refl _ wr).drew).trans hb2
                      have hS2 := HSt.out _ hb2w
                      have HB2 : Hid (Below w.heap.size w w2) := Lib.hid (HBk.out.trans (hb2w.mono HBk.out.size))
                      refine hK.out _ _ ⟨hS2, ?_⟩
                      clear hK K hS hb2 hb2w
                      try simp only [Act.put, List.getElem_toArray, List.getElem_cons_zero, List.getElem_cons_succ, List.setIfInBounds_toArray, List.set_cons_zero, List.set_cons_succ]
                      refine wpAnyT_take 99 17 (v := .bool true) hTB rfl (by kernel_rfl) (fun _ _ _ h => h) (Or.inl ⟨by rfl, fun W hW => ?_⟩) (by with_reducible assumption) ?_
                      · (go_simp; try (rw [decide_eq_true hzb]))
                      simp only [Act.put, List.getElem_toArray, List.getElem_cons_zero, List.getElem_cons_succ, List.setIfInBounds_toArray, List.set_cons_zero, List.set_cons_succ]
                      refine wpAnyT_take 99 18 (v := ?_) hTB rfl (by kernel_rfl) (fun _ _ _ h => h) (Or.inl ⟨by rfl, fun W hW => ?_⟩) (by with_reducible assumption) ?_
                      rotate_left
                      focus ((try dsimp only at hW); (try obtain ⟨hW0, hW1, hW2⟩ := hW); go_simp; try with_reducible rfl)
                      simp only [Act.put, List.getElem_toArray, List.getElem_cons_zero, List.getElem_cons_succ, List.setIfInBounds_toArray, List.set_cons_zero, List.set_cons_succ]
                      refine wpAnyT_pass 99 19 264 hTB (by kernel_rfl) (by kernel_rfl) (fun _ _ _ h => h) (by with_reducible assumption) ?_
                      simp only [Act.put, List.setIfInBounds_toArray, List.set_cons_zero, List.set_cons_succ]
                      refine wpAnyT_pass 99 20 265 hTB (by kernel_rfl) (by kernel_rfl) (fun _ _ _ h => h) (by with_reducible assumption) ?_
                      simp only [Act.put, List.setIfInBounds_toArray, List.set_cons_zero, List.set_cons_succ]
                      refine wpAnyT_pass 99 21 266 hTB (by kernel_rfl) (by kernel_rfl) (fun _ _ _ h => h) (by with_reducible assumption) ?_
                      simp only [Act.put, List.setIfInBounds_toArray, List.set_cons_zero, List.set_cons_succ]
                      refine wpAnyT_pass 99 22 267 hTB (by kernel_rfl) (by kernel_rfl) (fun _ _ _ h => h) (by with_reducible assumption) ?_
                      simp only [Act.put, List.setIfInBounds_toArray, List.set_cons_zero, List.set_cons_succ]
                      refine wpAnyT_pass 99 23 268 hTB (by kernel_rfl) (by kernel_rfl) (fun _ _ _ h => h) (by with_reducible assumption) ?_
                      simp only [Act.put, List.setIfInBounds_toArray, List.set_cons_zero, List.set_cons_succ]
                      refine ⟨by kernel_rfl, ?_⟩
                      simp only [List.drop_succ_cons, List.drop_zero]
                      have HF := Lib.hid (HNO.out 5 w2 HAN5.out HB2.out)
                      clear hTB hS2
                      go_wp2_with fail
                      exact HF.out
          · have hsb : (e.same.toList == []) = false := by rw [empty_dec, decide_eq_false hsm]
            have HF := Lib.hid (HF5.out (.inr (.inr (right_same_dir e hkd hsm))) w1 HB.out)
            clear hsm hkd
            go_wp2_with fail
            exact HF.out
        · have HF := Lib.hid (HF5.out (.inr (.inl hkd)) w1 HB.out)
          have hkb : (e.kind == 2) = false := beq_eq_false_iff_ne.2 hkd
          go_wp2_with fail
          exact HF.out
      · have HF := Lib.hid (HF5.out (.inl hp) w1 HB.out)
        have hpb : (e.path.toList == [47]) = false := by rw [slash_dec, decide_eq_false hp]
        clear hp
        go_wp2_with fail
        exact HF.out
end Go.Proofs.YtclhdppepopgeaaGreatDoor
