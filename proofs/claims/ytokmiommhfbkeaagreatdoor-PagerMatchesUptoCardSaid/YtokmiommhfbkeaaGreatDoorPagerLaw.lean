/- PagerMatches, the plain law: a pager, what it shows, and what it is behind a key. Plain Lean; no program in sight. -/
import Derived.Test.YtokmiommhfbkeaaGreatDoorRowsOf
import Derived.Lib.IndexMore
import Derived.Lib.Slices
namespace Go.Proofs.YtokmiommhfbkeaaGreatDoor
open Go.RowKit

structure PG where
  text : ByteArray
  wide : Int
  high : Int
  top : Int
  sought : ByteArray
def zeroPG : PG := ⟨⟨#[]⟩, 0, 0, 0, ⟨#[]⟩⟩
def PG.rows (p : PG) : List ByteArray := (rowsL p.text p.wide).1
def PG.nums (p : PG) : List Int := (rowsL p.text p.wide).2.1
def PG.most (p : PG) : Int := max (p.rows.length - p.high) 0
def pagerE (p : PG) : Int := if rowsE p.text p.wide = 0 then (if withinB p.high 1 200 && withinB p.top 0 p.most then (if 200 < p.sought.size then 2 else 0) else 3) else rowsE p.text p.wide
def visL (p : PG) : List ByteArray := if pagerE p = 0 then (p.rows.take (min (p.top + p.high) p.rows.length).toNat).drop p.top.toNat else []

/-- the first line from n on, by a step, that holds a text; -1: none -/
def findL (ls : List ByteArray) (q : ByteArray) (step : Int) : Nat → Int → Int
  | 0, _ => -1
  | f + 1, n => if 0 ≤ n ∧ n < ls.length then (if Lib.contains (ls.getD n.toNat ⟨#[]⟩).data.toList q.data.toList = true then n else findL ls q step f (n + step)) else -1
def soughtN (p : PG) (q : ByteArray) (step : Int) : Int := findL (linesL p.text) q step (linesL p.text).length (p.nums.getD p.top.toNat 0 + step)
def soughtL (p : PG) (q : ByteArray) (step : Int) : Int :=
  if (linesL p.text).length = 0 ∨ q.toList.isEmpty = true then -1 else if soughtN p q step < 0 then -1 else Lib.idxOf p.nums (soughtN p q step)

def moveTo (p : PG) (t : Int) : PG × Int := ({ p with top := min (max t 0) p.most }, 0)
def seekTo (p : PG) (q : ByteArray) (step : Int) : PG × Int := if soughtL p q step < 0 then (p, 8) else ({ p with sought := q, top := min (max (soughtL p q step) 0) p.most }, 0)
def slashB (key : ByteArray) : Bool := Lib.hasPrefix key.data.toList [47]
def scrollL (p : PG) (key : ByteArray) : PG × Int :=
  if pagerE p ≠ 0 then (zeroPG, pagerE p)
  else if key = ⟨#[106]⟩ then moveTo p (p.top + 1)
  else if key = ⟨#[107]⟩ then moveTo p (p.top - 1)
  else if key = ⟨#[32]⟩ then moveTo p (p.top + p.high)
  else if key = ⟨#[98]⟩ then moveTo p (p.top - p.high)
  else if key = ⟨#[100]⟩ then moveTo p (p.top + max (p.high / 2) 1)
  else if key = ⟨#[117]⟩ then moveTo p (p.top - max (p.high / 2) 1)
  else if key = ⟨#[103]⟩ then moveTo p 0
  else if key = ⟨#[71]⟩ then moveTo p p.most
  else if key = ⟨#[110]⟩ then seekTo p p.sought 1
  else if key = ⟨#[78]⟩ then seekTo p p.sought (-1)
  else if slashB key = true then (if 201 < key.size then (zeroPG, 2) else seekTo p (if key = ⟨#[47]⟩ then p.sought else key.extract 1 key.size) 1)
  else (zeroPG, 4)

theorem rows_len' (s : ByteArray) (wide : Int) : (rowsL s wide).1.length ≤ 4000000000000 ∧ (rowsL s wide).2.1.length ≤ 4000000000000 := by
  unfold rowsL
  split
  · rename_i hE
    have hh : (s.size ≤ 65536 ∧ (linesL s).length ≤ 4096) ∧ 2 ≤ wide := by
      unfold rowsE at hE
      split at hE
      · cases hE
      · rename_i hl
        split at hE
        · rename_i h; exact ⟨by simpa [largeB] using hl, by simp [withinB] at h; exact h.1⟩
        · cases hE
    have hkm : (linesL s).length * (8 * s.size + 1) ≤ 4096 * (8 * 65536 + 1) := Nat.mul_le_mul hh.1.2 (by omega)
    have h := Fits.rowsK hh.2 (lines_size s) _ (Nat.le_refl _)
    exact ⟨by have := h.1; omega, by have := h.2.1; omega⟩
  · exact ⟨Nat.zero_le _, Nat.zero_le _⟩

/-- the lines' numbers: as many as rows; each is that of a line among the first k; each line among the first k has one -/
def Numb (x : St) (k : Nat) : Prop := x.1.length = x.2.1.length ∧ (∀ n ∈ x.2.1, 0 ≤ n ∧ n < k)
theorem Numb.put {x : St} {k n : Nat} {wide : Int} {s : List UInt8} (h : Numb x k) (hn : n < k) : Numb (putR wide n s x) k := by
  unfold putR
  split
  · refine ⟨by simp [h.1], fun m hm => ?_⟩
    simp only [List.mem_append, List.mem_singleton] at hm
    rcases hm with hm | rfl
    · exact h.2 m hm
    · omega
  · exact h
theorem Numb.tab {x : St} {k n : Nat} {wide : Int} (h : Numb x k) (hn : n < k) : ∀ j, Numb (tabR wide n j x) k
  | 0 => h
  | j + 1 => (Numb.tab h hn j).put hn
theorem Numb.line {k n : Nat} {wide : Int} (hn : n < k) : ∀ (l : List UInt8) (y : St × Nat), Numb y.1 k → Numb (l.foldl (byteR wide n) y).1 k
  | [], _, h => h
  | c :: l, y, h => by
    refine Numb.line hn l _ ?_
    unfold byteR
    split
    · exact h.tab hn _
    · exact h.put hn
theorem Numb.lineR {k n : Nat} {wide : Int} (hn : n < k) {l : List UInt8} {x : St} (h : Numb x k) : Numb (Go.Proofs.YtokmiommhfbkeaaGreatDoor.lineR wide n l x) k := by
  have := Numb.line (wide := wide) hn l (x, 0) h
  unfold Go.Proofs.YtokmiommhfbkeaaGreatDoor.lineR closeR lineF
  refine ⟨by simp [this.1], fun m hm => ?_⟩
  simp only [List.mem_append, List.mem_singleton] at hm
  rcases hm with hm | rfl
  · exact this.2 m hm
  · omega
theorem numb_rowsK (wide : Int) (ls : List ByteArray) : ∀ k, Numb (rowsK wide ls k) k
  | 0 => ⟨rfl, fun n hn => by simp [rowsK] at hn⟩
  | k + 1 => by
    have h := numb_rowsK wide ls k
    exact Numb.lineR (Nat.lt_succ_self k) ⟨h.1, fun n hn => by have := h.2 n hn; omega⟩
theorem put_has {x : St} {n m : Int} {wide : Int} {s : List UInt8} (h : m ∈ x.2.1) : m ∈ (putR wide n s x).2.1 := by
  unfold putR; split
  · exact List.mem_append_left _ h
  · exact h
theorem tab_has {x : St} {n m : Int} {wide : Int} (h : m ∈ x.2.1) : ∀ j, m ∈ (tabR wide n j x).2.1
  | 0 => h
  | j + 1 => put_has (tab_has h j)
theorem line_has {n m : Int} {wide : Int} : ∀ (l : List UInt8) (y : St × Nat), m ∈ y.1.2.1 → m ∈ (l.foldl (byteR wide n) y).1.2.1
  | [], _, h => h
  | c :: l, y, h => by
    refine line_has l _ ?_
    unfold byteR; split
    · exact tab_has h _
    · exact put_has h
theorem has_rowsK (wide : Int) (ls : List ByteArray) : ∀ (k j : Nat), j < k → (j : Int) ∈ (rowsK wide ls k).2.1
  | 0, _, h => absurd h (Nat.not_lt_zero _)
  | k + 1, j, h => by
    show (j : Int) ∈ (closeR k (lineF wide k _ (rowsK wide ls k)).1).2.1
    unfold closeR
    rcases Nat.lt_or_ge j k with hj | hj
    · exact List.mem_append_left _ (line_has _ _ (has_rowsK wide ls k j hj))
    · obtain rfl : j = k := by omega
      exact List.mem_append_right _ (List.mem_singleton.2 rfl)

theorem idxFrom_mem (x : Int) : ∀ (zs : List Int) (i : Nat), x ∈ zs → 0 ≤ Lib.idxFrom zs x i
  | [], _, h => by simp at h
  | z :: zs, i, h => by
    unfold Lib.idxFrom
    split
    · omega
    · rename_i hz
      simp only [List.mem_cons] at h
      rcases h with rfl | h
      · exact absurd rfl hz
      · exact idxFrom_mem x zs (i + 1) h

/-- a pager that is right -/
structure PGood (p : PG) : Prop where
  rowsE : rowsE p.text p.wide = 0
  small : p.text.size ≤ 65536 ∧ (linesL p.text).length ≤ 4096
  wide : 2 ≤ p.wide ∧ p.wide ≤ 200
  high : 1 ≤ p.high ∧ p.high ≤ 200
  top : 0 ≤ p.top ∧ p.top ≤ p.most
  sought : p.sought.size ≤ 200
  numb : Numb (rowsL p.text p.wide) (linesL p.text).length
  has : ∀ j : Nat, j < (linesL p.text).length → (j : Int) ∈ p.nums
theorem pgood {p : PG} (h : pagerE p = 0) : PGood p := by
  unfold pagerE at h
  split at h
  · rename_i hr
    split at h
    · rename_i hw
      split at h
      · cases h
      · have hs : (p.text.size ≤ 65536 ∧ (linesL p.text).length ≤ 4096) ∧ 2 ≤ p.wide ∧ p.wide ≤ 200 := by
          have hr' := hr
          unfold Go.Proofs.YtokmiommhfbkeaaGreatDoor.rowsE at hr'
          split at hr'
          · cases hr'
          · rename_i hl
            split at hr'
            · rename_i hh; exact ⟨by simpa [largeB] using hl, by simpa [withinB] using hh⟩
            · cases hr'
        have hR : rowsL p.text p.wide = rowsK p.wide (linesL p.text) (linesL p.text).length := by unfold rowsL; rw [if_pos hr]
        simp only [withinB, Bool.and_eq_true, decide_eq_true_eq] at hw
        exact ⟨hr, hs.1, hs.2, hw.1, hw.2, by omega, by rw [hR]; exact numb_rowsK _ _ _, fun j hj => by unfold PG.nums; rw [hR]; exact has_rowsK _ _ _ _ hj⟩
    · cases h
  · rename_i hr; exact absurd h hr
/-- where there are lines, the top row is one, and its number is a line's -/
theorem PGood.at_top {p : PG} (h : PGood p) (hl : 0 < (linesL p.text).length) : p.top.toNat < p.nums.length ∧ p.top.toNat < p.rows.length ∧ 0 ≤ p.nums.getD p.top.toNat 0 ∧ p.nums.getD p.top.toNat 0 < (linesL p.text).length := by
  have h0 := h.has 0 hl
  have hn : 0 < p.nums.length := List.length_pos_of_mem h0
  have he : p.rows.length = p.nums.length := h.numb.1
  have ht : p.top.toNat < p.nums.length := by
    have h1 := h.top
    have h2 := h.high
    unfold PG.most at h1
    omega
  refine ⟨ht, by omega, ?_⟩
  rw [List.getD_eq_getElem?_getD, List.getElem?_eq_getElem ht]
  exact h.numb.2 _ (List.getElem_mem ht)
theorem findL_lt (ls : List ByteArray) (q : ByteArray) (step : Int) : ∀ (f : Nat) (n : Int), findL ls q step f n = -1 ∨ (0 ≤ findL ls q step f n ∧ findL ls q step f n < ls.length)
  | 0, _ => .inl rfl
  | f + 1, n => by
    unfold findL
    split
    · split
      · right; assumption
      · exact findL_lt ls q step f _
    · exact .inl rfl
/-- a line that is found has a row -/
theorem PGood.found {p : PG} (h : PGood p) {q : ByteArray} {step : Int} (hn : 0 ≤ soughtN p q step) : 0 ≤ Lib.idxOf p.nums (soughtN p q step) := by
  rcases findL_lt (linesL p.text) q step (linesL p.text).length (p.nums.getD p.top.toNat 0 + step) with he | ⟨h0, h1⟩
  · unfold soughtN at hn; omega
  · have := h.has (soughtN p q step).toNat (by unfold soughtN; omega)
    rw [Int.toNat_of_nonneg hn] at this
    exact idxFrom_mem _ _ 0 this

/-- a key leaves a right pager right -/
theorem most_same (p : PG) (q : ByteArray) (t : Int) : ({ p with sought := q, top := t } : PG).most = p.most := rfl
end Go.Proofs.YtokmiommhfbkeaaGreatDoor
