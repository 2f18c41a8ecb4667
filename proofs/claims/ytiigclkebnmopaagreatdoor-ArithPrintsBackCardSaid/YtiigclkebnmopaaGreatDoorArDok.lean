/- Arithmetic expressions, plain: what the law's dice build has the form of an expression, and its text is short. -/
import Derived.Test.YtiigclkebnmopaaGreatDoorArPrt
namespace Go.Proofs.YtiigclkebnmopaaGreatDoor

def tbN : Nat → Nat
  | 0 => 19
  | k + 1 => if k + 1 ≤ 3 then tbN k + 3 else 3 * tbN k + 12
/-- how long a text of that depth may be -/
def tb (d : Int) : Nat := tbN (d + 3).toNat
theorem tb_pos (d : Int) : 19 ≤ tb d := by
  unfold tb
  generalize (d + 3).toNat = k
  induction k with
  | zero => exact Nat.le_refl _
  | succ k ih =>
    unfold tbN
    split <;> omega
theorem tb_up {d : Int} (h : -3 < d) : tb (d - 1) + 3 ≤ tb d := by
  have h1 := tb_pos (d - 1)
  unfold tb at h1 ⊢
  obtain ⟨k, hk⟩ : ∃ k, (d - 1 + 3).toNat = k := ⟨_, rfl⟩
  rw [show (d + 3).toNat = k + 1 by omega, hk] at *
  show _ ≤ (if k + 1 ≤ 3 then tbN k + 3 else 3 * tbN k + 12)
  split <;> omega
theorem tb_big {d : Int} (h : 0 < d) : 3 * tb (d - 1) + 12 ≤ tb d := by
  unfold tb
  obtain ⟨k, hk⟩ : ∃ k, (d - 1 + 3).toNat = k := ⟨_, rfl⟩
  rw [show (d + 3).toNat = k + 1 by omega, hk]
  show _ ≤ (if k + 1 ≤ 3 then tbN k + 3 else 3 * tbN k + 12)
  rw [if_neg (by omega)]
  exact Nat.le_refl _
/-- it has the form, and its text is short -/
def DOk (d : Int) (x : Ex) : Prop := shaped x = true ∧ (shi x).length ≤ tb d ∧ (x.depth : Int) ≤ d + 4
theorem shw_le (x : Ex) : (shw x).length ≤ (shi x).length := by
  unfold shi inn
  split
  · exact Nat.le_refl _
  · simp
    omega
theorem shi_le (x : Ex) : (shi x).length ≤ (shw x).length + 2 := by
  unfold shi inn
  split
  · omega
  · simp
theorem depth0 (op : List UInt8) (n : Int) (nm : List UInt8) : (Ex.mk op n nm []).depth = 1 := by simp [Ex.depth, Ex.depths]
theorem depth1 (op : List UInt8) (n : Int) (nm : List UInt8) (a : Ex) : (Ex.mk op n nm [a]).depth = a.depth + 1 := by simp [Ex.depth, Ex.depths]
theorem depth2 (op : List UInt8) (n : Int) (nm : List UInt8) (a b : Ex) : (Ex.mk op n nm [a, b]).depth = max a.depth b.depth + 1 := by simp [Ex.depth, Ex.depths]
theorem depth3 (op : List UInt8) (n : Int) (nm : List UInt8) (a b c : Ex) : (Ex.mk op n nm [a, b, c]).depth = max a.depth (max b.depth c.depth) + 1 := by simp [Ex.depth, Ex.depths]

theorem DOk.var {d : Int} (hd : -3 ≤ d) {nm : List UInt8} (h : varOk nm = true) (hl : nm.length ≤ 16) : DOk d (.mk [118] 0 nm []) := by
  refine ⟨?_, ?_, by rw [depth0]; omega⟩
  · unfold shaped
    rw [if_neg (by decide), if_pos rfl]
    simp [h]
  · have := tb_pos d
    show (varS nm).length ≤ _
    unfold varS
    split
    · omega
    · split
      · simp; omega
      · simp; omega
theorem itoa_len {n : Int} (h0 : 0 ≤ n) (hm : n ≤ (maxN : Int)) : (Lib.itoa n).length ≤ 19 := by
  unfold Lib.itoa
  rw [if_neg (by omega), Lib.decDigits_length]
  rcases Nat.lt_or_ge 19 (Lib.nDigits n.toNat) with h | h
  · exfalso
    obtain ⟨k, hk⟩ : ∃ k, Lib.nDigits n.toNat = k + 1 := ⟨Lib.nDigits n.toNat - 1, by omega⟩
    have hmn : n.toNat < 10 ^ 19 := by
      have : (maxN : Int) = 9223372036854775807 := rfl
      have : (10 : Nat) ^ 19 = 10000000000000000000 := by decide
      omega
    have : Lib.nDigits n.toNat ≤ 19 := nDig_le 19 n.toNat (by omega) hmn
    omega
  · exact h
where
  nDig_le : ∀ (k u : Nat), 1 ≤ k → u < 10 ^ k → Lib.nDigits u ≤ k
    | 0, _, h, _ => by omega
    | k + 1, u, _, hu => by
      by_cases h10 : u < 10
      · rw [Lib.nDigits_small h10]; omega
      · rw [Lib.nDigits_big h10]
        cases k with
        | zero => simp at hu; omega
        | succ k =>
          have h1 : u / 10 < 10 ^ (k + 1) := by
            rw [Nat.div_lt_iff_lt_mul (by omega)]
            rw [Nat.pow_succ] at hu
            exact hu
          have := nDig_le (k + 1) (u / 10) (by omega) h1
          omega
theorem DOk.num {d : Int} (hd : -3 ≤ d) {n : Int} (h0 : 0 ≤ n) (hm : n ≤ (maxN : Int)) : DOk d (.mk [110] n [] []) := by
  refine ⟨?_, ?_, by rw [depth0]; omega⟩
  · unfold shaped
    rw [if_pos rfl]
    simp [h0, hm]
  · have := tb_pos d
    have := itoa_len h0 hm
    show (Lib.itoa n).length ≤ _
    omega
theorem DOk.elem {d : Int} (hd : -3 < d) {nm : List UInt8} (h : isNm nm = true) (hl : nm.length ≤ 1) {x : Ex} (hx : DOk (d - 1) x) : DOk d (.mk [101] 0 nm [x]) := by
  obtain ⟨h1, h2, h3⟩ := hx
  refine ⟨?_, ?_, by rw [depth1]; omega⟩
  · unfold shaped
    rw [if_neg (by decide), if_neg (by decide), if_pos rfl]
    simp [h, shapeds, h1]
  · have := tb_up hd
    have := shw_le x
    show (nm ++ 91 :: (shw x ++ [93])).length ≤ _
    simp
    omega
section
variable {d : Int} {x y z : Ex} {op : List UInt8}
theorem DOk.un (hd : 0 < d) (h : op ∈ [[117, 45], [117, 43], [33], [126]]) (hx : DOk (d - 1) x) : DOk d (.mk op 0 [] [x]) := by
  obtain ⟨h1, h2, h3⟩ := hx
  have hop : leafO op = false ∧ arO op = 1 ∧ setsO op = false ∧ (aheadO op).length ≤ 1 ∧ (behindO op).length = 0 := by
    have : ∀ op ∈ ([[117, 45], [117, 43], [33], [126]] : List (List UInt8)), leafO op = false ∧ arO op = 1 ∧ setsO op = false ∧ (aheadO op).length ≤ 1 ∧ (behindO op).length = 0 := by decide
    exact this op h
  refine ⟨shaped_node hop.1 hop.2.1 (by simp) (by simp [shapeds, h1]) (fun e => by rw [hop.2.2.1] at e; cases e), ?_, by rw [depth1]; omega⟩
  have := tb_big hd
  have := shi_le (.mk op 0 [] [x])
  have e : shw (.mk op 0 [] [x]) = aheadO op ++ (shi x ++ behindO op) := shw_one op hop.1
  rw [e] at this
  simp at this
  omega
theorem DOk.twice (hd : 0 < d) (h : op ∈ setU) (hx : DOk (d - 1) x) (ht : target x = true) : DOk d (.mk op 0 [] [x]) := by
  obtain ⟨h1, h2, h3⟩ := hx
  have hop : leafO op = false ∧ arO op = 1 ∧ (aheadO op).length + (behindO op).length = 2 := by
    have : ∀ op ∈ setU, leafO op = false ∧ arO op = 1 ∧ (aheadO op).length + (behindO op).length = 2 := by decide
    exact this op h
  refine ⟨shaped_node hop.1 hop.2.1 (by simp) (by simp [shapeds, h1]) (fun _ => ht), ?_, by rw [depth1]; omega⟩
  have := tb_big hd
  have := tb_pos (d - 1)
  have := shi_le (.mk op 0 [] [x])
  have e : shw (.mk op 0 [] [x]) = aheadO op ++ (shi x ++ behindO op) := shw_one op hop.1
  rw [e] at this
  simp at this
  omega
theorem DOk.three (hd : 0 < d) (hx : DOk (d - 1) x) (hy : DOk (d - 1) y) (hz : DOk (d - 1) z) : DOk d (.mk [63] 0 [] [x, y, z]) := by
  obtain ⟨h1, h2, h3⟩ := hx
  obtain ⟨i1, i2, i3⟩ := hy
  obtain ⟨j1, j2, j3⟩ := hz
  refine ⟨shaped_node (by decide) rfl (by simp) (by simp [shapeds, h1, i1, j1]) (fun e => absurd e (by decide)), ?_, by rw [depth3]; omega⟩
  have := tb_big hd
  have := shi_le (.mk [63] 0 [] [x, y, z])
  have e : shw (.mk [63] 0 [] [x, y, z]) = shi x ++ 32 :: 63 :: 32 :: (shi y ++ 32 :: 58 :: 32 :: shi z) := shw_three
  rw [e] at this
  simp at this
  omega
theorem len_two (hd : 0 < d) (hl : leafO op = false) (ho : op.length ≤ 3) (hx : (shi x).length ≤ tb (d - 1)) (hy : (shi y).length ≤ tb (d - 1)) : (shi (.mk op 0 [] [x, y])).length ≤ tb d := by
  have := tb_big hd
  have := tb_pos (d - 1)
  have := shi_le (.mk op 0 [] [x, y])
  have e : shw (.mk op 0 [] [x, y]) = shi x ++ 32 :: (op ++ 32 :: shi y) := shw_two op hl
  rw [e] at this
  simp at this
  omega
theorem DOk.bin (hd : 0 < d) (h : op ∈ binO ++ [[44]]) (hx : DOk (d - 1) x) (hy : DOk (d - 1) y) : DOk d (.mk op 0 [] [x, y]) := by
  obtain ⟨h1, h2, h3⟩ := hx
  obtain ⟨i1, i2, i3⟩ := hy
  have hop : leafO op = false ∧ arO op = 2 ∧ setsO op = false ∧ op.length ≤ 3 := by
    have : ∀ op ∈ binO ++ [[44]], leafO op = false ∧ arO op = 2 ∧ setsO op = false ∧ op.length ≤ 3 := by decide
    exact this op h
  exact ⟨shaped_node hop.1 hop.2.1 (by simp) (by simp [shapeds, h1, i1]) (fun e => by rw [hop.2.2.1] at e; cases e), len_two hd hop.1 hop.2.2.2 h2 i2, by rw [depth2]; omega⟩
theorem DOk.assign (hd : 0 < d) (h : op ∈ assigns) (hx : DOk (d - 1) x) (ht : target x = true) (hy : DOk (d - 1) y) : DOk d (.mk op 0 [] [x, y]) := by
  obtain ⟨h1, h2, h3⟩ := hx
  obtain ⟨i1, i2, i3⟩ := hy
  have hop : leafO op = false ∧ arO op = 2 ∧ op.length ≤ 3 := by
    have : ∀ op ∈ assigns, leafO op = false ∧ arO op = 2 ∧ op.length ≤ 3 := by decide
    exact this op h
  exact ⟨shaped_node hop.1 hop.2.1 (by simp) (by simp [shapeds, h1, i1]) (fun _ => ht), len_two hd hop.1 hop.2.2 h2 i2, by rw [depth2]; omega⟩
end
/-- no more parts than bytes -/
theorem shaped_size {x : Ex} (h : shaped x = true) : x.size ≤ (shw x).length := by
  obtain ⟨l, hl, _⟩ := read_back x h (40 * (shw x).length + 40) (parse_some _ _ _ trivial (by have : Kd.rank .expr = 17 := rfl; omega))
  exact parse_parts hl

end Go.Proofs.YtiigclkebnmopaaGreatDoor
