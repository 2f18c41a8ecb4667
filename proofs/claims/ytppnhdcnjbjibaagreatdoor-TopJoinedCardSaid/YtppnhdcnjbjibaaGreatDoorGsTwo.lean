/- Stable sorting: symMerge for all ranges; slices.stableCmpFunc. -/
import Derived.Test.YtppnhdcnjbjibaaGreatDoorGsSym
import Derived.Test.YtppnhdcnjbjibaaGreatDoorSmPass
namespace Go.Proofs.YtppnhdcnjbjibaaGreatDoor
open Go.RowKit Go.Sort

theorem sym_any (g N cap kb : Nat) (hN : N ≤ 1000000) : ∀ L, SymC g N cap kb L
  | 0 => fun P X Y S a m b w h => absurd h (Nat.not_lt_zero _)
  | L + 1 => by
    have ih := sym_any g N cap kb hN L
    intro P X Y S a m b w hl hd ha hm hb hX0 hY0 hX hY ht hgx hgy
    by_cases h1 : X.length = 1
    · obtain ⟨x, rfl⟩ := List.length_eq_one_iff.1 h1
      refine first_any g N cap kb P Y S x a m b w hd ha (by simpa using hm) (by simpa using hb) hY (fun y hy => ht x (by simp) y hy) (fun p hp => ?_) hN
      rcases List.mem_cons.1 hp with e | h
      · exact hgx p (by simp [e])
      · exact hgy p h
    · by_cases h2 : Y.length = 1
      · obtain ⟨y, rfl⟩ := List.length_eq_one_iff.1 h2
        refine last_any g N cap kb P X S y a m b w hd ha hm (by simpa using hb) h1 hX (fun x hx => ht x hx y (by simp)) (fun p hp => ?_) hN
        rcases List.mem_cons.1 hp with e | h
        · exact hgy p (by simp [e])
        · exact hgx p h
      · exact sym_mid g N cap kb P X Y S a m b w hd ha hm hb (by omega) (by omega) hX hY ht hgx hgy hN (fun P' X' Y' S' a' m' b' w' hl' => ih P' X' Y' S' a' m' b' w' (by omega))
set_option maxRecDepth 100000 in
set_option maxHeartbeats 1600000 in
theorem ins_none (g N cap kb a : Nat) (w : World) (hN : N ≤ 1000000) (ha : a ≤ N) :
    Calls Tryz.prog 82 #[.slice (some ⟨g, 0, none⟩) N cap, .int .i64 (a : Int), .int .i64 (a : Int), .func (.func 25) #[.agg #[.string ⟨#[44]⟩, .slice (some ⟨kb, 0, none⟩) 1 1, .bool false, .bool false, .bool false]] #[]] w fun e w' => e = .returned (.tuple #[]) ∧ w = w' := by
  have e1 : IntKind.i64.wrap ((a : Int) + 1) = (a : Int) + 1 := IntWalk.i64_in _ (by omega)
  have e2 : ¬ (a : Int) + 1 < (a : Int) := by omega
  go_enter Tryz.func82, Tryz.ntmps82
  go_wp2_with fail
  go_loopw [8] (fun s8 wr => s8 = .int .i64 ((a : Int) + 1) ∧ wr = w) (fun _ _ => 0)
  case atStart => exact ⟨rfl, rfl⟩
  case round =>
    obtain ⟨rfl, rfl⟩ := hrel
    go_wp2_with fail
    go_end0
    exact ⟨rfl, rfl⟩
/-- the last insertion: the rest of the list, or nothing -/
theorem ins_rest (g N cap kb : Nat) (L : List (Nat × EV)) (D : List (List (Nat × EV))) (a : Nat) (w : World) (hl : L.length = N) (ha : a = D.flatten.length) (h1 : a ≤ N) (h2 : N < a + 20) (h : FirstS keyE L 20 D) (hd : Dat 9 w g N cap kb (D.flatten ++ L.drop D.flatten.length)) (hr : Rise L) (hg : ∀ p ∈ L, goodE p.2) (hN : N ≤ 1000000) :
    Calls Tryz.prog 82 #[.slice (some ⟨g, 0, none⟩) N cap, .int .i64 (a : Int), .int .i64 (N : Int), .func (.func 25) #[.agg #[.string ⟨#[44]⟩, .slice (some ⟨kb, 0, none⟩) 1 1, .bool false, .bool false, .bool false]] #[]] w fun e w' => e = .returned (.tuple #[]) ∧ (∃ T, PassS keyE L 20 [] T ∧ Dat 9 w' g N cap kb T.flatten) ∧ Only g w w' := by
  by_cases he : a = N
  · rw [show (N : Int) = (a : Int) by omega]
    refine (ins_none g N cap kb a w hN h1).mono ?_
    rintro e w' ⟨rfl, rfl⟩
    refine ⟨rfl, ⟨D, h.none (by decide) (by omega), ?_⟩, Only.refl g w⟩
    rw [List.drop_of_length_le (by omega), List.append_nil] at hd
    exact hd
  · have hr' : Rise (L.drop D.flatten.length) := hr.sublist (List.drop_sublist _ _)
    refine (ins_any g N cap kb D.flatten (L.drop D.flatten.length) [] a N w (by simpa using hd) ha (by rw [List.length_drop]; omega) (by rw [List.length_drop]; omega) hr' (fun p hp => hg p (List.mem_of_mem_drop hp)) hN).mono ?_
    rintro e w' ⟨rfl, ⟨Z, hp, hs, hd'⟩, ho⟩
    refine ⟨rfl, ⟨D ++ [Z], h.last hr (by decide) (by omega) hp hs ?_, by simpa using hd'⟩, ho⟩
    rw [hp.length_eq, List.length_drop]
    omega
/-- a block more is sorted -/
theorem ins_more (g N cap kb : Nat) (L : List (Nat × EV)) (D : List (List (Nat × EV))) (a b : Nat) (w : World) (hl : L.length = N) (ha : a = D.flatten.length) (hb : b = a + 20) (h1 : b ≤ N) (h : FirstS keyE L 20 D) (hd : Dat 9 w g N cap kb (D.flatten ++ L.drop D.flatten.length)) (hr : Rise L) (hg : ∀ p ∈ L, goodE p.2) (hN : N ≤ 1000000) :
    Calls Tryz.prog 82 #[.slice (some ⟨g, 0, none⟩) N cap, .int .i64 (a : Int), .int .i64 (b : Int), .func (.func 25) #[.agg #[.string ⟨#[44]⟩, .slice (some ⟨kb, 0, none⟩) 1 1, .bool false, .bool false, .bool false]] #[]] w fun e w' => e = .returned (.tuple #[]) ∧ (∃ D', b = D'.flatten.length ∧ FirstS keyE L 20 D' ∧ Dat 9 w' g N cap kb (D'.flatten ++ L.drop D'.flatten.length)) ∧ Only g w w' := by
  have hs : L.drop D.flatten.length = (L.drop D.flatten.length).take 20 ++ L.drop (D.flatten.length + 20) := by
    rw [← List.drop_drop, List.take_append_drop]
  have hlt : ((L.drop D.flatten.length).take 20).length = 20 := by
    rw [List.length_take, List.length_drop]
    omega
  refine (ins_any g N cap kb D.flatten ((L.drop D.flatten.length).take 20) (L.drop (D.flatten.length + 20)) a b w (by rw [List.append_assoc, ← hs]; exact hd) ha (by omega) (by omega) (hr.part _ _) (fun p hp => hg p (List.mem_of_mem_drop (List.mem_of_mem_take hp))) hN).mono ?_
  rintro e w' ⟨rfl, ⟨Z, hp, hs, hd'⟩, ho⟩
  have hz : Z.length = 20 := by rw [hp.length_eq, hlt]
  have hf : (D ++ [Z]).flatten.length = D.flatten.length + 20 := by rw [flat_snoc, List.length_append, hz]
  refine ⟨rfl, ⟨D ++ [Z], by omega, h.step hr (by omega) hp hs, ?_⟩, ho⟩
  rw [hf, flat_snoc]
  exact hd'
/-- two blocks are merged -/
theorem merge_two (g N cap kb bs : Nat) (L : List (Nat × EV)) (D T : List (List (Nat × EV))) (a m b : Nat) (w : World) (hl : L.length = N) (hbs : 0 < bs) (ha : a = D.flatten.length) (hm : m = a + bs) (hb : b = a + 2 * bs) (h1 : b ≤ N) (h : PassS keyE L bs D T) (hd : Dat 9 w g N cap kb (D ++ T).flatten) (hg : ∀ p ∈ L, goodE p.2) (hN : N ≤ 1000000) :
    Calls Tryz.prog 83 #[.slice (some ⟨g, 0, none⟩) N cap, .int .i64 (a : Int), .int .i64 (m : Int), .int .i64 (b : Int), .func (.func 25) #[.agg #[.string ⟨#[44]⟩, .slice (some ⟨kb, 0, none⟩) 1 1, .bool false, .bool false, .bool false]] #[]] w fun e w' => e = .returned (.tuple #[]) ∧ (∃ D' T', b = D'.flatten.length ∧ PassS keyE L bs D' T' ∧ Dat 9 w' g N cap kb (D' ++ T').flatten) ∧ Only g w w' := by
  have hlen := h.lens
  obtain ⟨X, Y, r, rfl, hX, hY, hr⟩ := two_of hbs h.rest (by omega)
  obtain ⟨sX, sY, sT⟩ := h.good.two
  have hgo : ∀ p ∈ (D ++ X :: Y :: r).flatten, goodE p.2 := fun p hp => hg p (h.perm.mem_iff.1 hp)
  refine (sym_any g N cap kb hN (X.length + Y.length + 1) D.flatten X Y r.flatten a m b w (by omega) (by simpa using hd) ha (by omega) (by omega) (by omega) (by omega) sX sY sT (fun p hp => hgo p (by simp [hp])) (fun p hp => hgo p (by simp [hp]))).mono ?_
  rintro e w' ⟨rfl, ⟨Z, hp, hs, hd'⟩, ho⟩
  have hz : Z.length = 2 * bs := by rw [hp.length_eq, List.length_append]; omega
  have hf : (D ++ [Z]).flatten.length = D.flatten.length + 2 * bs := by rw [flat_snoc, List.length_append, hz]
  exact ⟨rfl, ⟨D ++ [Z], r, by omega, h.step hX hY hr hp hs, by simpa using hd'⟩, ho⟩
/-- the last two blocks -/
theorem merge_last (g N cap kb bs : Nat) (L : List (Nat × EV)) (D T : List (List (Nat × EV))) (a m : Nat) (w : World) (hl : L.length = N) (hbs : 0 < bs) (ha : a = D.flatten.length) (hm : m = a + bs) (h1 : m < N) (h2 : N < a + 2 * bs) (h : PassS keyE L bs D T) (hd : Dat 9 w g N cap kb (D ++ T).flatten) (hg : ∀ p ∈ L, goodE p.2) (hN : N ≤ 1000000) :
    Calls Tryz.prog 83 #[.slice (some ⟨g, 0, none⟩) N cap, .int .i64 (a : Int), .int .i64 (m : Int), .int .i64 (N : Int), .func (.func 25) #[.agg #[.string ⟨#[44]⟩, .slice (some ⟨kb, 0, none⟩) 1 1, .bool false, .bool false, .bool false]] #[]] w fun e w' => e = .returned (.tuple #[]) ∧ (∃ T', PassS keyE L (2 * bs) [] T' ∧ Dat 9 w' g N cap kb T'.flatten) ∧ Only g w w' := by
  have hlen := h.lens
  obtain ⟨X, Y, rfl, hX, hY, hY2⟩ := last_of hbs h.rest (by omega) (by omega)
  obtain ⟨sX, sY, sT⟩ := h.good.two
  have hgo : ∀ p ∈ (D ++ [X, Y]).flatten, goodE p.2 := fun p hp => hg p (h.perm.mem_iff.1 hp)
  simp only [List.flatten_cons, List.flatten_nil, List.append_nil, List.length_append] at hlen
  refine (sym_any g N cap kb hN (X.length + Y.length + 1) D.flatten X Y [] a m N w (by omega) (by simpa using hd) ha (by omega) (by omega) (by omega) (by omega) sX sY sT (fun p hp => hgo p (by simp [hp])) (fun p hp => hgo p (by simp [hp]))).mono ?_
  rintro e w' ⟨rfl, ⟨Z, hp, hs, hd'⟩, ho⟩
  exact ⟨rfl, ⟨D ++ [Z], h.endTwo hbs hX ⟨hY, hY2⟩ hp hs, by simpa using hd'⟩, ho⟩
end Go.Proofs.YtppnhdcnjbjibaaGreatDoor
