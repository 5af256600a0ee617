/- LayoutPoints: the plain law. -/
import Derived.Test.YthpfhlhoekgpjaaDoorY
set_option linter.unusedVariables false
set_option linter.unusedSimpArgs false
namespace Go.Proofs.YthpfhlhoekgpjaaDoor
open Go.RowKit

theorem PosLe.refl (a : Nat × Nat) : PosLe a a := .inr ⟨rfl, Nat.le_refl _⟩
theorem PosLe.trans {a b c : Nat × Nat} (h : PosLe a b) (h' : PosLe b c) : PosLe a c := by
  unfold PosLe at *
  omega
/-- The rows do not hang on the cursor. -/
theorem cutRun_free (cols : Nat) (cu cu' : Int) (cells : List Cell) : ∀ k, k ≤ cells.length → (cutRun cols cu cells k).done = (cutRun cols cu' cells k).done ∧ (cutRun cols cu cells k).cur = (cutRun cols cu' cells k).cur
  | 0, _ => ⟨rfl, rfl⟩
  | k + 1, h => by
    obtain ⟨h1, h2⟩ := cutRun_free cols cu cu' cells k (by omega)
    rw [cutRun_succ _ _ _ _ (by omega), cutRun_succ _ _ _ _ (by omega)]
    simp only [cutStep, h1, h2]
    exact ⟨trivial, trivial⟩
def preAt (cols : Nat) (cells : List Cell) (k : Nat) : List (List Cell) × List Cell := cutPre cols (cutRun cols (-1) cells k).done (cutRun cols (-1) cells k).cur (cells.getD k blankC)
def stPos (cols : Nat) (cells : List Cell) (k : Nat) : Nat × Nat := ((cutRun cols (-1) cells k).done.length, (cutRun cols (-1) cells k).cur.length)
def prePos (cols : Nat) (cells : List Cell) (k : Nat) : Nat × Nat := ((preAt cols cells k).1.length, (preAt cols cells k).2.length)
def endPos (cols : Nat) (cells : List Cell) : Nat × Nat :=
  if (cutRun cols (-1) cells cells.length).cur.length = cols then ((cutRun cols (-1) cells cells.length).done.length + 1, 0) else stPos cols cells cells.length
def cPos (cols : Nat) (cells : List Cell) (c : Nat) : Nat × Nat := if c < cells.length then prePos cols cells c else endPos cols cells
theorem st_pre (cols : Nat) (cells : List Cell) (k : Nat) : PosLe (stPos cols cells k) (prePos cols cells k) := by
  unfold stPos prePos preAt cutPre PosLe
  generalize (cutRun cols (-1) cells k).done = d
  generalize (cutRun cols (-1) cells k).cur = cu
  generalize cells.getD k blankC = c
  simp only
  have h3 : cu.length ≤ (if c.wd = 2 ∧ cu.length + 1 = cols then cu ++ [blankC] else cu).length := by split <;> simp
  generalize (if c.wd = 2 ∧ cu.length + 1 = cols then cu ++ [blankC] else cu) = z at *
  split
  · left; simp
  · right; exact ⟨rfl, h3⟩
theorem pre_st (cols : Nat) (cells : List Cell) (k : Nat) (hk : k < cells.length) : PosLe (prePos cols cells k) (stPos cols cells (k + 1)) := by
  unfold stPos prePos preAt
  rw [cutRun_succ _ _ _ _ hk]
  simp only [cutStep]
  have : cells.getD k blankC = cells[k] := by simp [List.getD, hk]
  rw [this]
  exact .inr ⟨rfl, by simp⟩
theorem st_end (cols : Nat) (cells : List Cell) : PosLe (stPos cols cells cells.length) (endPos cols cells) := by
  unfold endPos
  split
  · left; simp [stPos]
  · exact PosLe.refl _
theorem cPos_step (cols : Nat) (cells : List Cell) (c : Nat) (hc : c < cells.length) : PosLe (cPos cols cells c) (cPos cols cells (c + 1)) := by
  unfold cPos
  rw [if_pos hc]
  by_cases h : c + 1 < cells.length
  · rw [if_pos h]
    exact (pre_st cols cells c hc).trans (st_pre cols cells (c + 1))
  · rw [if_neg h]
    have : c + 1 = cells.length := by omega
    have h2 := pre_st cols cells c hc
    rw [this] at h2
    exact h2.trans (st_end cols cells)
theorem cPos_mono (cols : Nat) (cells : List Cell) (a : Nat) : ∀ n, a + n ≤ cells.length → PosLe (cPos cols cells a) (cPos cols cells (a + n))
  | 0, _ => PosLe.refl _
  | n + 1, h => (cPos_mono cols cells a n (by omega)).trans (cPos_step cols cells (a + n) (by omega))
theorem cutRun_at (cols : Nat) (cells : List Cell) (c : Nat) : ∀ k, k ≤ cells.length → c < k → ((cutRun cols c cells k).row, (cutRun cols c cells k).col) = prePos cols cells c
  | 0, _, h => by omega
  | k + 1, h, hc => by
    have hg : cells.getD k blankC = cells[k] := by simp [List.getD, show k < cells.length by omega]
    obtain ⟨h1, h2⟩ := cutRun_free cols c (-1) cells k (by omega)
    rw [cutRun_succ _ _ _ _ (by omega)]
    simp only [cutStep, h1, h2]
    by_cases e : k = c
    · subst e
      simp only [if_pos rfl, prePos, preAt, hg]
      simp
    · have e2 : ¬ (k : Int) = (c : Int) := by omega
      simp only [if_neg e2]
      exact cutRun_at cols cells c k (by omega) (by omega)
theorem cutF_pos (cells : List Cell) (cols c : Nat) (hc : c ≤ cells.length) : (cutF cells cols c).2 = cPos cols cells c := by
  obtain ⟨h1, h2⟩ := cutRun_free cols c (-1) cells cells.length (Nat.le_refl _)
  by_cases h : c < cells.length
  · have e2 : ¬ (c : Int) = (cells.length : Int) := by omega
    simp only [cutF, if_neg e2, cPos, if_pos h]
    exact cutRun_at cols cells c cells.length (Nat.le_refl _) h
  · have e : c = cells.length := by omega
    subst e
    simp only [cutF, cPos, if_neg h, endPos, h1, h2, stPos, ↓reduceIte]
    by_cases hq : (cutRun cols (-1) cells cells.length).cur.length = cols
    · rw [if_pos hq, if_pos hq]
    · rw [if_neg hq, if_neg hq]

/-! ### The cursor's cell goes on with the point -/
theorem backF_le (all : List Int) : ∀ n, backF all n ≤ n
  | 0 => Nat.le_refl _
  | n + 1 => by
    rw [backF]
    split
    · exact Nat.le_succ_of_le (backF_le all n)
    · exact Nat.le_refl _
theorem backF_step (all : List Int) (n : Nat) : backF all n ≤ backF all (n + 1) := by
  conv => rhs; rw [backF]
  split
  · exact Nat.le_refl _
  · exact Nat.le_succ_of_le (backF_le all n)
theorem cellsF_take_mono (l : List Int) (m n : Nat) (h : m ≤ n) : (cellsF (l.take m)).length ≤ (cellsF (l.take n)).length := by
  have := cellsF_take_len (l.take n) m
  rwa [List.take_take, Nat.min_eq_left h] at this
theorem curF_step (all : List Int) (a : Nat) : curF all a ≤ curF all (a + 1) := by
  by_cases h : all.length ≤ a + 1
  · have := curF_le all a
    conv => rhs; rw [curF, if_pos h]
    exact this
  · rw [curF, if_neg (by omega), curF, if_neg h]
    exact cellsF_take_mono _ _ _ (backF_step _ _)
theorem points_law (prompt line : List Int) (cols p : Nat) (hc : 8 ≤ cols) (hp : p < line.length) : PosLe (posF prompt line cols p) (posF prompt line cols (p + 1)) := by
  unfold posF rowsF placeF
  simp only [Bool.false_eq_true, if_false]
  generalize (splitNL (seenF prompt)).2 = rest
  have h1 := curF_step (rest ++ line) (rest.length + p)
  have h2 := curF_le (rest ++ line) (rest.length + p)
  have h3 := curF_le (rest ++ line) (rest.length + p + 1)
  rw [show rest.length + (p + 1) = rest.length + p + 1 by omega]
  generalize curF (rest ++ line) (rest.length + p) = a at *
  generalize curF (rest ++ line) (rest.length + p + 1) = b at *
  generalize cellsF (rest ++ line) = cells at *
  generalize (headRows cols _).length = n
  have hm := cPos_mono cols cells a (b - a) (by omega)
  rw [show a + (b - a) = b by omega, ← cutF_pos _ _ _ h2, ← cutF_pos _ _ _ h3] at hm
  unfold PosLe at *
  simp only at *
  omega
end Go.Proofs.YthpfhlhoekgpjaaDoor
