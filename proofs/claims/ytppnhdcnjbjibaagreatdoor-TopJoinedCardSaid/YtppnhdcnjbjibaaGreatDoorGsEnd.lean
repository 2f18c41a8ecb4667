/- Stable sorting: what follows symMerge's search: a rotation, and two merges of shorter ranges. -/
import Derived.Test.YtppnhdcnjbjibaaGreatDoorGsLast
import Derived.Test.YtppnhdcnjbjibaaGreatDoorSmCut
namespace Go.Proofs.YtppnhdcnjbjibaaGreatDoor
open Go.RowKit Go.Sort

/-- ranges are merged -/
def MergedE (g N cap kb : Nat) (P X Y S : List (Nat × EV)) (w : World) : Prop := ∃ Z : List (Nat × EV), Z.Perm (X ++ Y) ∧ Srt keyE Z ∧ Dat 9 w g N cap kb (P ++ Z ++ S)
/-- the contract of symMerge for ranges that have together less than L elements -/
def SymC (g N cap kb L : Nat) : Prop := ∀ (P X Y S : List (Nat × EV)) (a m b : Nat) (w : World), X.length + Y.length < L → Dat 9 w g N cap kb (P ++ X ++ Y ++ S) → a = P.length → m = P.length + X.length → b = P.length + X.length + Y.length → 0 < X.length → 0 < Y.length → Srt keyE X → Srt keyE Y → Tags X Y → (∀ p ∈ X, goodE p.2) → (∀ p ∈ Y, goodE p.2) →
    Calls Tryz.prog 83 #[.slice (some ⟨g, 0, none⟩) N cap, .int .i64 (a : Int), .int .i64 (m : Int), .int .i64 (b : Int), .func (.func 25) #[.agg #[.string ⟨#[44]⟩, .slice (some ⟨kb, 0, none⟩) 1 1, .bool false, .bool false, .bool false]] #[]] w fun e w' => e = .returned (.tuple #[]) ∧ MergedE g N cap kb P X Y S w' ∧ Only g w w'
theorem exit_facts (g N cap kb : Nat) (P X Y S : List (Nat × EV)) {a m b u v k d n s s0 r0 : Nat} (IH : SymC g N cap kb (X.length + Y.length))
    (HA : a = P.length ∧ m = a + u ∧ b = m + v ∧ X.length = u ∧ Y.length = v ∧ k = (u + v) / 2 ∧ 1 < u ∧ 1 < v ∧ d = a + k ∧ n = d + m ∧ b ≤ N ∧ N ≤ 1000000)
    (hX : Srt keyE X) (hY : Srt keyE Y) (ht : Tags X Y) (hgx : ∀ p ∈ X, goodE p.2) (hgy : ∀ p ∈ Y, goodE p.2)
    (hsr : (s0 = 0 ∨ k = v + s0) ∧ (r0 = k ∨ r0 = u) ∧ s0 ≤ r0 ∧ r0 ≤ k ∧ r0 ≤ u ∧ k ≤ v + s0) (hs : s0 ≤ s ∧ s ≤ r0)
    (HL : ∀ q : s0 < s ∧ s - 1 < X.length ∧ k - s < Y.length, ¬ keyE (Y[k - s]'q.2.2).2 < keyE (X[s - 1]'q.2.1).2)
    (HR : ∀ q : s < r0 ∧ s < X.length ∧ k - 1 - s < Y.length, keyE (Y[k - 1 - s]'q.2.2).2 < keyE (X[s]'q.2.1).2) :
    ∃ (i f : Nat) (A1 A2 : World → Prop), i = a + s ∧ IntKind.i64.wrap ((n : Int) - (i : Int)) = (f : Int) ∧
      (i < m → m < f → ∀ w, Dat 9 w g N cap kb (P ++ X ++ Y ++ S) → Calls Tryz.prog 109 #[.slice (some ⟨g, 0, none⟩) N cap, .int .i64 (i : Int), .int .i64 (m : Int), .int .i64 (f : Int), .func (.func 25) #[.agg #[.string ⟨#[44]⟩, .slice (some ⟨kb, 0, none⟩) 1 1, .bool false, .bool false, .bool false]] #[]] w fun e w' => e = .returned (.tuple #[]) ∧ A1 w' ∧ Only g w w') ∧
      (¬ (i < m ∧ m < f) → ∀ w, Dat 9 w g N cap kb (P ++ X ++ Y ++ S) → A1 w) ∧
      (a < i → i < d → ∀ w, A1 w → Calls Tryz.prog 83 #[.slice (some ⟨g, 0, none⟩) N cap, .int .i64 (a : Int), .int .i64 (i : Int), .int .i64 (d : Int), .func (.func 25) #[.agg #[.string ⟨#[44]⟩, .slice (some ⟨kb, 0, none⟩) 1 1, .bool false, .bool false, .bool false]] #[]] w fun e w' => e = .returned (.tuple #[]) ∧ A2 w' ∧ Only g w w') ∧
      (¬ (a < i ∧ i < d) → ∀ w, A1 w → A2 w) ∧
      (d < f → f < b → ∀ w, A2 w → Calls Tryz.prog 83 #[.slice (some ⟨g, 0, none⟩) N cap, .int .i64 (d : Int), .int .i64 (f : Int), .int .i64 (b : Int), .func (.func 25) #[.agg #[.string ⟨#[44]⟩, .slice (some ⟨kb, 0, none⟩) 1 1, .bool false, .bool false, .bool false]] #[]] w fun e w' => e = .returned (.tuple #[]) ∧ MergedE g N cap kb P X Y S w' ∧ Only g w w') ∧
      (¬ (d < f ∧ f < b) → ∀ w, A2 w → MergedE g N cap kb P X Y S w) := by
  obtain ⟨h1, h2, h3, h4, h5, h6, h7, h8, h9, h10, h11, h12⟩ := HA
  obtain ⟨X1, X2, Y1, Y2, rfl, rfl, hs1, hk1, ⟨hX1, hY1, ht1⟩, ⟨hX2, hY2, ht2⟩, hm⟩ := search_end hX hY ht h4 h5 hsr hs HL HR
  simp only [List.length_append] at h4 h5 IH
  have gx1 : ∀ p ∈ X1, goodE p.2 := fun p hp => hgx p (List.mem_append_left _ hp)
  have gx2 : ∀ p ∈ X2, goodE p.2 := fun p hp => hgx p (List.mem_append_right _ hp)
  have gy1 : ∀ p ∈ Y1, goodE p.2 := fun p hp => hgy p (List.mem_append_left _ hp)
  have gy2 : ∀ p ∈ Y2, goodE p.2 := fun p hp => hgy p (List.mem_append_right _ hp)
  clear HL HR hX hY ht hgx hgy
  refine ⟨a + s, m + Y1.length, fun w => Dat 9 w g N cap kb (P ++ X1 ++ Y1 ++ (X2 ++ Y2 ++ S)), fun w => MergedE g N cap kb P X1 Y1 (X2 ++ Y2 ++ S) w, rfl, ?_, ?_, ?_, ?_, ?_, ?_, ?_⟩
  · rw [show (n : Int) - ((a + s : Nat) : Int) = ((m + Y1.length : Nat) : Int) by omega]
    exact IntWalk.i64_in _ (by omega)
  · intro c1 c2 w hd
    refine (rotate_any g N cap kb (P ++ X1) X2 Y1 (Y2 ++ S) (a + s) m (m + Y1.length) _ w (by simpa using hd) (by simp; omega) (by simp; omega) (by simp; omega) (by omega) (by omega) h12).mono ?_
    rintro e w' ⟨he, hd', ho⟩
    exact ⟨he, by simpa using hd', ho⟩
  · intro c w hd
    have he : X2 = [] ∨ Y1 = [] := by
      rw [← List.length_eq_zero_iff, ← List.length_eq_zero_iff]
      omega
    have := no_turn he (P ++ X1) (Y2 ++ S)
    simp only [List.append_assoc] at this hd ⊢
    rw [← this]
    exact hd
  · intro c1 c2 w hd
    exact IH P X1 Y1 (X2 ++ Y2 ++ S) a (a + s) d w (by omega) hd h1 (by omega) (by omega) (by omega) (by omega) hX1 hY1 ht1 gx1 gy1
  · intro c w hd
    have he : X1 = [] ∨ Y1 = [] := by
      rw [← List.length_eq_zero_iff, ← List.length_eq_zero_iff]
      omega
    exact ⟨X1 ++ Y1, List.Perm.refl _, part_done hX1 hY1 he, by simpa using hd⟩
  · rintro c1 c2 w ⟨Z1, hp1, hs1', hd1⟩
    have hl := hp1.length_eq
    simp only [List.length_append] at hl
    refine (IH (P ++ Z1) X2 Y2 S d (m + Y1.length) b w (by omega) (by simpa using hd1) (by simp; omega) (by simp; omega) (by simp; omega) (by omega) (by omega) hX2 hY2 ht2 gx2 gy2).mono ?_
    rintro e w' ⟨he, ⟨Z2, hp2, hs2, hd2⟩, ho⟩
    obtain ⟨hp, hsz⟩ := hm Z1 Z2 hp1 hs1' hp2 hs2
    exact ⟨he, ⟨Z1 ++ Z2, hp, hsz, by simpa using hd2⟩, ho⟩
  · rintro c w ⟨Z1, hp1, hs1', hd1⟩
    have hl := hp1.length_eq
    simp only [List.length_append] at hl
    have he : X2 = [] ∨ Y2 = [] := by
      rw [← List.length_eq_zero_iff, ← List.length_eq_zero_iff]
      omega
    obtain ⟨hp, hsz⟩ := hm Z1 (X2 ++ Y2) hp1 hs1' (List.Perm.refl _) (part_done hX2 hY2 he)
    exact ⟨Z1 ++ (X2 ++ Y2), hp, hsz, by simpa using hd1⟩
end Go.Proofs.YtppnhdcnjbjibaaGreatDoor
