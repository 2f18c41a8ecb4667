/- Arithmetic expressions: the program's printer: a sign without its parts. -/
import Derived.Test.YtiigclkebnmopaaGreatDoorArPrF
namespace Go.Proofs.YtiigclkebnmopaaGreatDoor
open Go.RowKit Go.Shelf

theorem none_cases (op : List UInt8) : (∃ M ∈ ([[101], [63], [117, 45], [117, 43], [33], [126], [43, 43, 118], [45, 45, 118], [118, 43, 43], [118, 45, 45]] : List (List UInt8)), op = M) ∨ ∀ M ∈ ([[101], [63], [117, 45], [117, 43], [33], [126], [43, 43, 118], [45, 45, 118], [118, 43, 43], [118, 45, 45]] : List (List UInt8)), (op == M) = false := by
  by_cases h : op ∈ ([[101], [63], [117, 45], [117, 43], [33], [126], [43, 43, 118], [45, 45, 118], [118, 43, 43], [118, 45, 45]] : List (List UInt8))
  · exact .inl ⟨op, h, rfl⟩
  · exact .inr fun M hM => beq_eq_false_iff_ne.2 fun e => h (e ▸ hM)

/-- whether operation i, which writes slot d, is passed over -/
def passes (ops : Array Oper) (i d : Nat) (tmps : Array Value) : Bool :=
  match ops[i]? with
  | some o => o.dst == some d && !Region.wanted o (yielded ops tmps)
  | none => false

theorem wpAny_pass {P : Program} {md : Region.Mode} {ops : Array Oper} {Q : Exit → Act → World → Prop} (i d : Nat) {fuel : Nat} {listed : Array Bool} {a : Act} {w : World} (hp : passes ops i d a.tmps = true) (hs : Region.noSelect ops = true) (hf : Region.free md ops listed i = true) (hr : (Region.ready md ops listed).contains i = true) (hQ : ∀ c a w, Q (.panic c) (a.put (some d) undef) w → Q (.panic c) a w) (h : wpAny P md ops Q fuel (listed.setIfInBounds i true) (a.put (some d) undef) w) : wpAny P md ops Q (fuel + 1) listed a w := by
  unfold passes at hp
  split at hp
  · rename_i o ho
    simp only [Bool.and_eq_true, beq_iff_eq, Bool.not_eq_true'] at hp
    exact wpAny_take ho hs hf hr (by rw [hp.1]; exact hQ) (.inr ⟨hp.2, rfl⟩) (by rw [hp.1]; exact h)
  · exact absurd hp (by simp)


/-- what operation i does to slot d: the value v in any world -/
def gives (P : Program) (ops : Array Oper) (i d : Nat) (a : Act) (w : World) : Option (Result Next) :=
  match ops[i]? with
  | some o => if o.dst == some d && Region.wanted o (yielded ops a.tmps) then some ((execOp a.eval o).run P w) else none
  | none => none

theorem wpAny_gives {P : Program} {md : Region.Mode} {ops : Array Oper} {Q : Exit → Act → World → Prop} (i d : Nat) (v : Value) {fuel : Nat} {listed : Array Bool} {a : Act} {w : World} (hp : ∀ w, gives P ops i d a w = some (.ok (.value v) w)) (hs : Region.noSelect ops = true) (hf : Region.free md ops listed i = true) (hr : (Region.ready md ops listed).contains i = true) (hQ : ∀ c a w, Q (.panic c) (a.put (some d) v) w → Q (.panic c) a w) (h : wpAny P md ops Q fuel (listed.setIfInBounds i true) (a.put (some d) v) w) : wpAny P md ops Q (fuel + 1) listed a w := by
  cases ho : ops[i]? with
  | none => have := hp w; simp [gives, ho] at this
  | some o =>
    have h1 : ∀ w, o.dst = some d ∧ Region.wanted o (yielded ops a.tmps) = true ∧ (execOp a.eval o).run P w = .ok (.value v) w := by
      intro w
      have := hp w
      simp only [gives, ho] at this
      split at this
      · rename_i hc
        simp only [Bool.and_eq_true, beq_iff_eq] at hc
        exact ⟨hc.1, hc.2, Option.some.inj this⟩
      · exact absurd this (by simp)
    exact wpAny_take ho hs hf hr (by rw [(h1 w).1]; exact hQ) (.inl ⟨(h1 w).2.1, fun w => (h1 w).2.2⟩) (by rw [(h1 w).1]; exact h)

set_option maxRecDepth 100000 in
set_option maxHeartbeats 6400000 in
theorem pe_other (w0 : World) (B b : Nat) (h0 : W0 w0 B b) (op : List UInt8) (hn : op ≠ [110]) (hv : op ≠ [118]) (hne : ∀ M ∈ ([[101], [63], [117, 45], [117, 43], [33], [126], [43, 43, 118], [45, 45, 118], [118, 43, 43], [118, 45, 45]] : List (List UInt8)), (op == M) = false) (n : Int) (nm : List UInt8) : PE w0 B b (.mk op n nm []) [] true := by
  intro v w L bad hx hp hB hlen
  obtain ⟨A, c, rfl, _, _⟩ := hx.parts
  have fn : ((toB op).toList == [110]) = false := by rw [toB_toList]; exact beq_eq_false_iff_ne.2 hn
  have fv : ((toB op).toList == [118]) = false := by rw [toB_toList]; exact beq_eq_false_iff_ne.2 hv
  have hBs : B ≤ w.heap.size := by have := hB.size; rw [h0.size] at this; exact this
  have HS := Lib.hid (SE.start (op := op) (nm := nm) (n := n) (A := A) (k := ([] : List Ex).length) (c := c) hp hBs)
  clear hx hp
  have HNe := Lib.hid hne
  have f0 : ((toB op).toList == [101]) = false := by rw [toB_toList]; exact HNe.out [101] (by simp)
  have f1 : ((toB op).toList == [63]) = false := by rw [toB_toList]; exact HNe.out [63] (by simp)
  have f2 : ((toB op).toList == [117, 45]) = false := by rw [toB_toList]; exact HNe.out [117, 45] (by simp)
  have f3 : ((toB op).toList == [117, 43]) = false := by rw [toB_toList]; exact HNe.out [117, 43] (by simp)
  have f4 : ((toB op).toList == [33]) = false := by rw [toB_toList]; exact HNe.out [33] (by simp)
  have f5 : ((toB op).toList == [126]) = false := by rw [toB_toList]; exact HNe.out [126] (by simp)
  have f6 : ((toB op).toList == [43, 43, 118]) = false := by rw [toB_toList]; exact HNe.out [43, 43, 118] (by simp)
  have f7 : ((toB op).toList == [45, 45, 118]) = false := by rw [toB_toList]; exact HNe.out [45, 45, 118] (by simp)
  have f8 : ((toB op).toList == [118, 43, 43]) = false := by rw [toB_toList]; exact HNe.out [118, 43, 43] (by simp)
  have f9 : ((toB op).toList == [118, 45, 45]) = false := by rw [toB_toList]; exact HNe.out [118, 45, 45] (by simp)
  clear hne hn hv
  go_enter Tryz.func42, Tryz.ntmps42
  go_upto_region 1 with fail
  generalize (w.alloc (.cells #[.pointer (some ⟨b, 0, none⟩)] 80)).alloc (.cells #[.string (toB op), .int .i64 n, .string (toB nm), .slice A ([] : List Ex).length c] 25) = w1 at *
  obtain ⟨c0, c1, c2, c3, c4, l1, l2, l3⟩ := HS.out.look
  go_upto_region 26 with fail
  go_cut [130] (fun s130 wx => s130 = .bool false ∧ SE B b w.heap.size (w.heap.size + 1) op n nm A ([] : List Ex).length c L (bad || true) w wx)
  case first =>
    refine wp_region_any (by kernel_rfl) ?_
    try (change wpAny _ _ _ _ _ _ _ (World.drew _))
    refine wpAny_take (i := 0) (v := ?_) rfl (by kernel_rfl) (by kernel_rfl) (by kernel_rfl) (fun _ _ _ h => h) (Or.inl ⟨by rfl, ?_⟩) ?_
    rotate_left
    · intro w; go_simp; first | done | with_reducible rfl
    refine wpAny_ready (rs := [1]) (by kernel_rfl) (by simp) ?_
    refine AllReady.cons rfl (fun K hK => ?_) AllReady.nil
    go_simp
    go_at_call 83
    refine (cnt_any HS.out.drew 2).mono ?_
    rintro e w2 ⟨rfl, hs2⟩
    have HS2 := Lib.hid hs2
    rw [show ((([] : List Ex).length : Nat) : Int) = 0 from rfl, show ((0 : Int) == 2) = false from rfl] at HS2 ⊢
    clear hs2
    try go_simp
    refine hK _ _ ?_
    clear hK K
    refine wpAny_take (i := 2) (v := ?_) rfl (by kernel_rfl) (by kernel_rfl) (by kernel_rfl) (fun _ _ _ h => h) (Or.inl ⟨by rfl, ?_⟩) ?_
    rotate_left
    · intro w; go_simp; first | done | with_reducible rfl
    refine wpAny_pass 3 112 (by kernel_rfl) (by kernel_rfl) (by kernel_rfl) (by kernel_rfl) (fun _ _ _ h => h) ?_
    refine wpAny_pass 4 113 (by kernel_rfl) (by kernel_rfl) (by kernel_rfl) (by kernel_rfl) (fun _ _ _ h => h) ?_
    refine wpAny_pass 5 114 (by kernel_rfl) (by kernel_rfl) (by kernel_rfl) (by kernel_rfl) (fun _ _ _ h => h) ?_
    refine wpAny_pass 6 115 (by kernel_rfl) (by kernel_rfl) (by kernel_rfl) (by kernel_rfl) (fun _ _ _ h => h) ?_
    refine wpAny_pass 7 116 (by kernel_rfl) (by kernel_rfl) (by kernel_rfl) (by kernel_rfl) (fun _ _ _ h => h) ?_
    refine wpAny_pass 8 117 (by kernel_rfl) (by kernel_rfl) (by kernel_rfl) (by kernel_rfl) (fun _ _ _ h => h) ?_
    refine wpAny_pass 9 118 (by kernel_rfl) (by kernel_rfl) (by kernel_rfl) (by kernel_rfl) (fun _ _ _ h => h) ?_
    refine wpAny_pass 10 119 (by kernel_rfl) (by kernel_rfl) (by kernel_rfl) (by kernel_rfl) (fun _ _ _ h => h) ?_
    refine wpAny_pass 11 120 (by kernel_rfl) (by kernel_rfl) (by kernel_rfl) (by kernel_rfl) (fun _ _ _ h => h) ?_
    refine wpAny_pass 12 121 (by kernel_rfl) (by kernel_rfl) (by kernel_rfl) (by kernel_rfl) (fun _ _ _ h => h) ?_
    refine wpAny_pass 13 122 (by kernel_rfl) (by kernel_rfl) (by kernel_rfl) (by kernel_rfl) (fun _ _ _ h => h) ?_
    refine wpAny_pass 14 123 (by kernel_rfl) (by kernel_rfl) (by kernel_rfl) (by kernel_rfl) (fun _ _ _ h => h) ?_
    refine wpAny_pass 15 124 (by kernel_rfl) (by kernel_rfl) (by kernel_rfl) (by kernel_rfl) (fun _ _ _ h => h) ?_
    refine wpAny_pass 16 125 (by kernel_rfl) (by kernel_rfl) (by kernel_rfl) (by kernel_rfl) (fun _ _ _ h => h) ?_
    refine wpAny_pass 17 126 (by kernel_rfl) (by kernel_rfl) (by kernel_rfl) (by kernel_rfl) (fun _ _ _ h => h) ?_
    refine wpAny_pass 18 127 (by kernel_rfl) (by kernel_rfl) (by kernel_rfl) (by kernel_rfl) (fun _ _ _ h => h) ?_
    refine wpAny_pass 19 128 (by kernel_rfl) (by kernel_rfl) (by kernel_rfl) (by kernel_rfl) (fun _ _ _ h => h) ?_
    refine wpAny_pass 20 129 (by kernel_rfl) (by kernel_rfl) (by kernel_rfl) (by kernel_rfl) (fun _ _ _ h => h) ?_
    refine wpAny_gives 21 130 (.bool false) (fun w => by kernel_rfl) (by kernel_rfl) (by kernel_rfl) (by kernel_rfl) (fun _ _ _ h => h) ?_
    refine wpAny_done (by kernel_rfl) ?_ _
    go_simp
    go_step
    go_meet
    exact ⟨rfl, HS2.out⟩
  case rest =>
  obtain ⟨rfl, hs2⟩ := hcut
  have HS2 := Lib.hid hs2
  clear hs2 HS c0 c1 c2 c3 c4 l1 l2 l3
  obtain ⟨c0, c1, c2, c3, c4, l1, l2, l3⟩ := HS2.out.look
  go_wp2_with fail
  exact bodyPost_ret (results_none rfl _ _ _) rfl ⟨rfl, by simpa using HS2.out.pr, HS2.out.pf⟩


set_option maxRecDepth 100000 in
set_option maxHeartbeats 6400000 in
theorem pe_none (w0 : World) (B b : Nat) (h0 : W0 w0 B b) (op : List UInt8) (hn : op ≠ [110]) (hv : op ≠ [118]) (n : Int) (nm : List UInt8) : PE w0 B b (.mk op n nm []) [] true := by
  rcases none_cases op with ⟨M, hM, hop⟩ | hne
  · intro v w L bad hx hp hB hlen
    obtain ⟨A, c, rfl, _, _⟩ := hx.parts
    have fn : ((toB op).toList == [110]) = false := by rw [toB_toList]; exact beq_eq_false_iff_ne.2 hn
    have fv : ((toB op).toList == [118]) = false := by rw [toB_toList]; exact beq_eq_false_iff_ne.2 hv
    have hBs : B ≤ w.heap.size := by have := hB.size; rw [h0.size] at this; exact this
    have HS := Lib.hid (SE.start (op := op) (nm := nm) (n := n) (A := A) (k := ([] : List Ex).length) (c := c) hp hBs)
    clear hx hp
    have HOp := Lib.hid hop
    simp only [List.mem_cons, List.not_mem_nil, or_false] at hM
    clear hop hn hv
    rcases hM with rfl | rfl | rfl | rfl | rfl | rfl | rfl | rfl | rfl | rfl
    · have f0 : ((toB op).toList == [101]) = true := by rw [toB_toList, HOp.out]; rfl
      go_enter Tryz.func42, Tryz.ntmps42
      go_upto_region 1 with fail
      generalize (w.alloc (.cells #[.pointer (some ⟨b, 0, none⟩)] 80)).alloc (.cells #[.string (toB op), .int .i64 n, .string (toB nm), .slice A ([] : List Ex).length c] 25) = w1 at *
      obtain ⟨c0, c1, c2, c3, c4, l1, l2, l3⟩ := HS.out.look
      go_wp2_with fail
      refine (cnt_any HS.out 1).mono ?_
      rintro e w2 ⟨rfl, hs2⟩
      have HS2 := Lib.hid hs2
      rw [show ((([] : List Ex).length : Nat) : Int) = 0 from rfl, show ((0 : Int) == 1) = false from rfl] at HS2 ⊢
      clear hs2 HS c0 c1 c2 c3 c4 l1 l2 l3
      obtain ⟨c0, c1, c2, c3, c4, l1, l2, l3⟩ := HS2.out.look
      go_wp2_with fail
      exact bodyPost_ret (results_none rfl _ _ _) rfl ⟨rfl, by simpa using HS2.out.pr, HS2.out.pf⟩
    · have f0 : ((toB op).toList == [101]) = false := by rw [toB_toList, HOp.out]; rfl
      have f1 : ((toB op).toList == [63]) = true := by rw [toB_toList, HOp.out]; rfl
      go_enter Tryz.func42, Tryz.ntmps42
      go_upto_region 1 with fail
      generalize (w.alloc (.cells #[.pointer (some ⟨b, 0, none⟩)] 80)).alloc (.cells #[.string (toB op), .int .i64 n, .string (toB nm), .slice A ([] : List Ex).length c] 25) = w1 at *
      obtain ⟨c0, c1, c2, c3, c4, l1, l2, l3⟩ := HS.out.look
      go_wp2_with fail
      refine (cnt_any HS.out 3).mono ?_
      rintro e w2 ⟨rfl, hs2⟩
      have HS2 := Lib.hid hs2
      rw [show ((([] : List Ex).length : Nat) : Int) = 0 from rfl, show ((0 : Int) == 3) = false from rfl] at HS2 ⊢
      clear hs2 HS c0 c1 c2 c3 c4 l1 l2 l3
      obtain ⟨c0, c1, c2, c3, c4, l1, l2, l3⟩ := HS2.out.look
      go_wp2_with fail
      exact bodyPost_ret (results_none rfl _ _ _) rfl ⟨rfl, by simpa using HS2.out.pr, HS2.out.pf⟩
    · have f0 : ((toB op).toList == [101]) = false := by rw [toB_toList, HOp.out]; rfl
      have f1 : ((toB op).toList == [63]) = false := by rw [toB_toList, HOp.out]; rfl
      have f2 : ((toB op).toList == [117, 45]) = true := by rw [toB_toList, HOp.out]; rfl
      have hszO : (toB op).size = 2 := by rw [toB_size, HOp.out]; rfl
      go_enter Tryz.func42, Tryz.ntmps42
      go_upto_region 1 with fail
      generalize (w.alloc (.cells #[.pointer (some ⟨b, 0, none⟩)] 80)).alloc (.cells #[.string (toB op), .int .i64 n, .string (toB nm), .slice A ([] : List Ex).length c] 25) = w1 at *
      obtain ⟨c0, c1, c2, c3, c4, l1, l2, l3⟩ := HS.out.look
      go_wp2_with fail
      refine (cnt_any HS.out 1).mono ?_
      rintro e w2 ⟨rfl, hs2⟩
      have HS2 := Lib.hid hs2
      rw [show ((([] : List Ex).length : Nat) : Int) = 0 from rfl, show ((0 : Int) == 1) = false from rfl] at HS2 ⊢
      clear hs2 HS c0 c1 c2 c3 c4 l1 l2 l3
      obtain ⟨c0, c1, c2, c3, c4, l1, l2, l3⟩ := HS2.out.look
      go_wp2_with fail
      go_end0
      exact ⟨rfl, by simpa using HS2.out.pr, HS2.out.pf⟩
    · have f0 : ((toB op).toList == [101]) = false := by rw [toB_toList, HOp.out]; rfl
      have f1 : ((toB op).toList == [63]) = false := by rw [toB_toList, HOp.out]; rfl
      have f2 : ((toB op).toList == [117, 45]) = false := by rw [toB_toList, HOp.out]; rfl
      have f3 : ((toB op).toList == [117, 43]) = true := by rw [toB_toList, HOp.out]; rfl
      have hszO : (toB op).size = 2 := by rw [toB_size, HOp.out]; rfl
      go_enter Tryz.func42, Tryz.ntmps42
      go_upto_region 1 with fail
      generalize (w.alloc (.cells #[.pointer (some ⟨b, 0, none⟩)] 80)).alloc (.cells #[.string (toB op), .int .i64 n, .string (toB nm), .slice A ([] : List Ex).length c] 25) = w1 at *
      obtain ⟨c0, c1, c2, c3, c4, l1, l2, l3⟩ := HS.out.look
      go_wp2_with fail
      refine (cnt_any HS.out 1).mono ?_
      rintro e w2 ⟨rfl, hs2⟩
      have HS2 := Lib.hid hs2
      rw [show ((([] : List Ex).length : Nat) : Int) = 0 from rfl, show ((0 : Int) == 1) = false from rfl] at HS2 ⊢
      clear hs2 HS c0 c1 c2 c3 c4 l1 l2 l3
      obtain ⟨c0, c1, c2, c3, c4, l1, l2, l3⟩ := HS2.out.look
      go_wp2_with fail
      go_end0
      exact ⟨rfl, by simpa using HS2.out.pr, HS2.out.pf⟩
    · have f0 : ((toB op).toList == [101]) = false := by rw [toB_toList, HOp.out]; rfl
      have f1 : ((toB op).toList == [63]) = false := by rw [toB_toList, HOp.out]; rfl
      have f2 : ((toB op).toList == [117, 45]) = false := by rw [toB_toList, HOp.out]; rfl
      have f3 : ((toB op).toList == [117, 43]) = false := by rw [toB_toList, HOp.out]; rfl
      have f4 : ((toB op).toList == [33]) = true := by rw [toB_toList, HOp.out]; rfl
      have hszO : (toB op).size = 1 := by rw [toB_size, HOp.out]; rfl
      go_enter Tryz.func42, Tryz.ntmps42
      go_upto_region 1 with fail
      generalize (w.alloc (.cells #[.pointer (some ⟨b, 0, none⟩)] 80)).alloc (.cells #[.string (toB op), .int .i64 n, .string (toB nm), .slice A ([] : List Ex).length c] 25) = w1 at *
      obtain ⟨c0, c1, c2, c3, c4, l1, l2, l3⟩ := HS.out.look
      go_wp2_with fail
      refine (cnt_any HS.out 1).mono ?_
      rintro e w2 ⟨rfl, hs2⟩
      have HS2 := Lib.hid hs2
      rw [show ((([] : List Ex).length : Nat) : Int) = 0 from rfl, show ((0 : Int) == 1) = false from rfl] at HS2 ⊢
      clear hs2 HS c0 c1 c2 c3 c4 l1 l2 l3
      obtain ⟨c0, c1, c2, c3, c4, l1, l2, l3⟩ := HS2.out.look
      go_wp2_with fail
      go_end0
      exact ⟨rfl, by simpa using HS2.out.pr, HS2.out.pf⟩
    · have f0 : ((toB op).toList == [101]) = false := by rw [toB_toList, HOp.out]; rfl
      have f1 : ((toB op).toList == [63]) = false := by rw [toB_toList, HOp.out]; rfl
      have f2 : ((toB op).toList == [117, 45]) = false := by rw [toB_toList, HOp.out]; rfl
      have f3 : ((toB op).toList == [117, 43]) = false := by rw [toB_toList, HOp.out]; rfl
      have f4 : ((toB op).toList == [33]) = false := by rw [toB_toList, HOp.out]; rfl
      have f5 : ((toB op).toList == [126]) = true := by rw [toB_toList, HOp.out]; rfl
      have hszO : (toB op).size = 1 := by rw [toB_size, HOp.out]; rfl
      go_enter Tryz.func42, Tryz.ntmps42
      go_upto_region 1 with fail
      generalize (w.alloc (.cells #[.pointer (some ⟨b, 0, none⟩)] 80)).alloc (.cells #[.string (toB op), .int .i64 n, .string (toB nm), .slice A ([] : List Ex).length c] 25) = w1 at *
      obtain ⟨c0, c1, c2, c3, c4, l1, l2, l3⟩ := HS.out.look
      go_wp2_with fail
      refine (cnt_any HS.out 1).mono ?_
      rintro e w2 ⟨rfl, hs2⟩
      have HS2 := Lib.hid hs2
      rw [show ((([] : List Ex).length : Nat) : Int) = 0 from rfl, show ((0 : Int) == 1) = false from rfl] at HS2 ⊢
      clear hs2 HS c0 c1 c2 c3 c4 l1 l2 l3
      obtain ⟨c0, c1, c2, c3, c4, l1, l2, l3⟩ := HS2.out.look
      go_wp2_with fail
      go_end0
      exact ⟨rfl, by simpa using HS2.out.pr, HS2.out.pf⟩
    · have f0 : ((toB op).toList == [101]) = false := by rw [toB_toList, HOp.out]; rfl
      have f1 : ((toB op).toList == [63]) = false := by rw [toB_toList, HOp.out]; rfl
      have f2 : ((toB op).toList == [117, 45]) = false := by rw [toB_toList, HOp.out]; rfl
      have f3 : ((toB op).toList == [117, 43]) = false := by rw [toB_toList, HOp.out]; rfl
      have f4 : ((toB op).toList == [33]) = false := by rw [toB_toList, HOp.out]; rfl
      have f5 : ((toB op).toList == [126]) = false := by rw [toB_toList, HOp.out]; rfl
      have f6 : ((toB op).toList == [43, 43, 118]) = true := by rw [toB_toList, HOp.out]; rfl
      have hszO : (toB op).size = 3 := by rw [toB_size, HOp.out]; rfl
      go_enter Tryz.func42, Tryz.ntmps42
      go_upto_region 1 with fail
      generalize (w.alloc (.cells #[.pointer (some ⟨b, 0, none⟩)] 80)).alloc (.cells #[.string (toB op), .int .i64 n, .string (toB nm), .slice A ([] : List Ex).length c] 25) = w1 at *
      obtain ⟨c0, c1, c2, c3, c4, l1, l2, l3⟩ := HS.out.look
      go_wp2_with fail
      refine (cnt_any HS.out 1).mono ?_
      rintro e w2 ⟨rfl, hs2⟩
      have HS2 := Lib.hid hs2
      rw [show ((([] : List Ex).length : Nat) : Int) = 0 from rfl, show ((0 : Int) == 1) = false from rfl] at HS2 ⊢
      clear hs2 HS c0 c1 c2 c3 c4 l1 l2 l3
      obtain ⟨c0, c1, c2, c3, c4, l1, l2, l3⟩ := HS2.out.look
      go_wp2_with fail
      go_end0
      exact ⟨rfl, by simpa using HS2.out.pr, HS2.out.pf⟩
    · have f0 : ((toB op).toList == [101]) = false := by rw [toB_toList, HOp.out]; rfl
      have f1 : ((toB op).toList == [63]) = false := by rw [toB_toList, HOp.out]; rfl
      have f2 : ((toB op).toList == [117, 45]) = false := by rw [toB_toList, HOp.out]; rfl
      have f3 : ((toB op).toList == [117, 43]) = false := by rw [toB_toList, HOp.out]; rfl
      have f4 : ((toB op).toList == [33]) = false := by rw [toB_toList, HOp.out]; rfl
      have f5 : ((toB op).toList == [126]) = false := by rw [toB_toList, HOp.out]; rfl
      have f6 : ((toB op).toList == [43, 43, 118]) = false := by rw [toB_toList, HOp.out]; rfl
      have f7 : ((toB op).toList == [45, 45, 118]) = true := by rw [toB_toList, HOp.out]; rfl
      have hszO : (toB op).size = 3 := by rw [toB_size, HOp.out]; rfl
      go_enter Tryz.func42, Tryz.ntmps42
      go_upto_region 1 with fail
      generalize (w.alloc (.cells #[.pointer (some ⟨b, 0, none⟩)] 80)).alloc (.cells #[.string (toB op), .int .i64 n, .string (toB nm), .slice A ([] : List Ex).length c] 25) = w1 at *
      obtain ⟨c0, c1, c2, c3, c4, l1, l2, l3⟩ := HS.out.look
      go_wp2_with fail
      refine (cnt_any HS.out 1).mono ?_
      rintro e w2 ⟨rfl, hs2⟩
      have HS2 := Lib.hid hs2
      rw [show ((([] : List Ex).length : Nat) : Int) = 0 from rfl, show ((0 : Int) == 1) = false from rfl] at HS2 ⊢
      clear hs2 HS c0 c1 c2 c3 c4 l1 l2 l3
      obtain ⟨c0, c1, c2, c3, c4, l1, l2, l3⟩ := HS2.out.look
      go_wp2_with fail
      go_end0
      exact ⟨rfl, by simpa using HS2.out.pr, HS2.out.pf⟩
    · have f0 : ((toB op).toList == [101]) = false := by rw [toB_toList, HOp.out]; rfl
      have f1 : ((toB op).toList == [63]) = false := by rw [toB_toList, HOp.out]; rfl
      have f2 : ((toB op).toList == [117, 45]) = false := by rw [toB_toList, HOp.out]; rfl
      have f3 : ((toB op).toList == [117, 43]) = false := by rw [toB_toList, HOp.out]; rfl
      have f4 : ((toB op).toList == [33]) = false := by rw [toB_toList, HOp.out]; rfl
      have f5 : ((toB op).toList == [126]) = false := by rw [toB_toList, HOp.out]; rfl
      have f6 : ((toB op).toList == [43, 43, 118]) = false := by rw [toB_toList, HOp.out]; rfl
      have f7 : ((toB op).toList == [45, 45, 118]) = false := by rw [toB_toList, HOp.out]; rfl
      have f8 : ((toB op).toList == [118, 43, 43]) = true := by rw [toB_toList, HOp.out]; rfl
      have hszO : (toB op).size = 3 := by rw [toB_size, HOp.out]; rfl
      go_enter Tryz.func42, Tryz.ntmps42
      go_upto_region 1 with fail
      generalize (w.alloc (.cells #[.pointer (some ⟨b, 0, none⟩)] 80)).alloc (.cells #[.string (toB op), .int .i64 n, .string (toB nm), .slice A ([] : List Ex).length c] 25) = w1 at *
      obtain ⟨c0, c1, c2, c3, c4, l1, l2, l3⟩ := HS.out.look
      go_wp2_with fail
      refine (cnt_any HS.out 1).mono ?_
      rintro e w2 ⟨rfl, hs2⟩
      have HS2 := Lib.hid hs2
      rw [show ((([] : List Ex).length : Nat) : Int) = 0 from rfl, show ((0 : Int) == 1) = false from rfl] at HS2 ⊢
      clear hs2 HS c0 c1 c2 c3 c4 l1 l2 l3
      obtain ⟨c0, c1, c2, c3, c4, l1, l2, l3⟩ := HS2.out.look
      go_wp2_with fail
      go_end0
      exact ⟨rfl, by simpa using HS2.out.pr, HS2.out.pf⟩
    · have f0 : ((toB op).toList == [101]) = false := by rw [toB_toList, HOp.out]; rfl
      have f1 : ((toB op).toList == [63]) = false := by rw [toB_toList, HOp.out]; rfl
      have f2 : ((toB op).toList == [117, 45]) = false := by rw [toB_toList, HOp.out]; rfl
      have f3 : ((toB op).toList == [117, 43]) = false := by rw [toB_toList, HOp.out]; rfl
      have f4 : ((toB op).toList == [33]) = false := by rw [toB_toList, HOp.out]; rfl
      have f5 : ((toB op).toList == [126]) = false := by rw [toB_toList, HOp.out]; rfl
      have f6 : ((toB op).toList == [43, 43, 118]) = false := by rw [toB_toList, HOp.out]; rfl
      have f7 : ((toB op).toList == [45, 45, 118]) = false := by rw [toB_toList, HOp.out]; rfl
      have f8 : ((toB op).toList == [118, 43, 43]) = false := by rw [toB_toList, HOp.out]; rfl
      have f9 : ((toB op).toList == [118, 45, 45]) = true := by rw [toB_toList, HOp.out]; rfl
      have hszO : (toB op).size = 3 := by rw [toB_size, HOp.out]; rfl
      go_enter Tryz.func42, Tryz.ntmps42
      go_upto_region 1 with fail
      generalize (w.alloc (.cells #[.pointer (some ⟨b, 0, none⟩)] 80)).alloc (.cells #[.string (toB op), .int .i64 n, .string (toB nm), .slice A ([] : List Ex).length c] 25) = w1 at *
      obtain ⟨c0, c1, c2, c3, c4, l1, l2, l3⟩ := HS.out.look
      go_wp2_with fail
      refine (cnt_any HS.out 1).mono ?_
      rintro e w2 ⟨rfl, hs2⟩
      have HS2 := Lib.hid hs2
      rw [show ((([] : List Ex).length : Nat) : Int) = 0 from rfl, show ((0 : Int) == 1) = false from rfl] at HS2 ⊢
      clear hs2 HS c0 c1 c2 c3 c4 l1 l2 l3
      obtain ⟨c0, c1, c2, c3, c4, l1, l2, l3⟩ := HS2.out.look
      go_wp2_with fail
      go_end0
      exact ⟨rfl, by simpa using HS2.out.pr, HS2.out.pf⟩
  · exact pe_other w0 B b h0 op hn hv hne n nm

end Go.Proofs.YtiigclkebnmopaaGreatDoor
