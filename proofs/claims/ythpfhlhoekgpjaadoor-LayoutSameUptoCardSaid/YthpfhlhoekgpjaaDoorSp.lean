/- LayoutSame: the plain law. -/
import Derived.Test.YthpfhlhoekgpjaaDoorSa
set_option linter.unusedVariables false
set_option linter.unusedSimpArgs false
namespace Go.Proofs.YthpfhlhoekgpjaaDoor
open Go.RowKit

def cellsAt (xs : List (List Cell)) (i : Nat) : List Cell := xs.getD i []
/-- The reference's answer: row by row. -/
def refSameRows (xs ys : List (List Cell)) : Nat → Bool
  | 0 => true
  | n + 1 => refSameRows xs ys n && cellsEqB (trimF (cellsAt xs n)) (trimF (cellsAt ys n))
def refSameF (xs ys : List (List Cell)) (r1 c1 r2 c2 : Int) : Bool := refSameRows xs ys (max xs.length ys.length) && (r1 == r2 && (c1 == c2))
theorem toList_inj {a b : ByteArray} (h : a.toList = b.toList) : a = b := by
  rw [ByteArray.toList_eq, ByteArray.toList_eq] at h
  obtain ⟨⟨l⟩⟩ := a
  obtain ⟨⟨m⟩⟩ := b
  simp at h
  rw [h]
theorem cellEq_iff (a b : Cell) : cellEq a b = true ↔ a = b := by
  obtain ⟨t, x, y⟩ := a
  obtain ⟨t', x', y'⟩ := b
  constructor
  · intro h
    simp only [cellEq, Bool.and_eq_true, beq_iff_eq] at h
    obtain ⟨h1, h2, h3⟩ := h
    rw [toList_inj h1, h2, h3]
  · intro h
    injection h with h1 h2 h3
    subst h1 h2 h3
    simp [cellEq]
theorem cellsEqB_iff (a b : List Cell) : cellsEqB a b = true ↔ a = b := eqAll_iff cellEq cellEq_iff a b
theorem rowsEqB_iff (a b : List (List Cell)) : rowsEqB a b = true ↔ a = b := eqAll_iff cellsEqB cellsEqB_iff a b
theorem refSameRows_iff (xs ys : List (List Cell)) : ∀ n, refSameRows xs ys n = true ↔ ∀ i, i < n → trimF (cellsAt xs i) = trimF (cellsAt ys i)
  | 0 => by simp [refSameRows]
  | n + 1 => by
    rw [refSameRows, Bool.and_eq_true, refSameRows_iff xs ys n, cellsEqB_iff]
    constructor
    · rintro ⟨h1, h2⟩ i hi
      rcases Nat.lt_or_ge i n with h | h
      · exact h1 i h
      · rw [show i = n by omega]; exact h2
    · intro h
      exact ⟨fun i hi => h i (by omega), h n (by omega)⟩
theorem bareN_le (l : List (List Cell)) : ∀ n, bareN l n ≤ n
  | 0 => Nat.le_refl _
  | n + 1 => by
    rw [bareN]
    split
    · exact Nat.le_succ_of_le (bareN_le l n)
    · exact Nat.le_refl _
theorem bareN_empty (l : List (List Cell)) : ∀ n i, bareN l n ≤ i → i < n → l.getD i [] = []
  | 0, i, _, h => by omega
  | n + 1, i, h1, h2 => by
    rw [bareN] at h1
    split at h1
    · rename_i h
      rcases Nat.lt_or_ge i n with h3 | h3
      · exact bareN_empty l n i h1 h3
      · rw [show i = n by omega]; exact List.length_eq_zero_iff.1 h
    · omega
theorem bareN_last (l : List (List Cell)) : ∀ n, bareN l n = 0 ∨ l.getD (bareN l n - 1) [] ≠ []
  | 0 => .inl rfl
  | n + 1 => by
    rw [bareN]
    split
    · exact bareN_last l n
    · rename_i h
      right
      rw [Nat.add_sub_cancel]
      intro e
      rw [e] at h
      exact h rfl
def bareL (l : List (List Cell)) : List (List Cell) := l.take (bareN l l.length)
theorem bareL_get (l : List (List Cell)) (i : Nat) : (bareL l).getD i [] = l.getD i [] := by
  unfold bareL
  have hle := bareN_le l l.length
  rcases Nat.lt_or_ge i (bareN l l.length) with h | h
  · simp only [List.getD]
    rw [List.getElem?_take_of_lt h]
  · have h1 : (l.take (bareN l l.length)).getD i [] = [] := by
      simp only [List.getD]
      rw [List.getElem?_eq_none (by simp; omega)]
      rfl
    rw [h1]
    rcases Nat.lt_or_ge i l.length with h2 | h2
    · exact (bareN_empty l l.length i h h2).symm
    · simp only [List.getD]
      rw [List.getElem?_eq_none h2]
      rfl
theorem bareL_len (l : List (List Cell)) : (bareL l).length = bareN l l.length := by
  have := bareN_le l l.length
  unfold bareL
  simp
  omega
theorem bareL_le (l m : List (List Cell)) (h : ∀ i, l.getD i [] = m.getD i []) : (bareL l).length ≤ (bareL m).length := by
  rw [bareL_len, bareL_len]
  rcases bareN_last l l.length with h0 | h0
  · omega
  · rcases Nat.lt_or_ge (bareN m m.length) (bareN l l.length) with h1 | h1
    · exfalso
      apply h0
      rw [h]
      rcases Nat.lt_or_ge (bareN l l.length - 1) m.length with h2 | h2
      · exact bareN_empty m m.length _ (by omega) h2
      · simp only [List.getD]
        rw [List.getElem?_eq_none h2]
        rfl
    · exact h1
theorem bareL_iff (l m : List (List Cell)) : bareL l = bareL m ↔ ∀ i, l.getD i [] = m.getD i [] := by
  constructor
  · intro h i
    rw [← bareL_get l, ← bareL_get m, h]
  · intro h
    have hl : (bareL l).length = (bareL m).length := Nat.le_antisymm (bareL_le l m h) (bareL_le m l (fun i => (h i).symm))
    refine List.ext_getElem hl ?_
    intro i h1 h2
    have := h i
    rw [← bareL_get l, ← bareL_get m] at this
    simpa [List.getD, h1, h2] using this
theorem bareF_eq (xs : List (List Cell)) : bareF xs = bareL (xs.map trimF) := by unfold bareF bareL; rw [List.length_map]
theorem map_at (xs : List (List Cell)) (i : Nat) : (xs.map trimF).getD i [] = trimF (cellsAt xs i) := by
  unfold cellsAt
  simp only [List.getD, List.getElem?_map]
  cases xs[i]? with
  | none => rfl
  | some r => rfl
theorem same_law (xs ys : List (List Cell)) (r1 c1 r2 c2 : Int) : sameF xs ys r1 c1 r2 c2 = refSameF xs ys r1 c1 r2 c2 := by
  have key : rowsEqB (bareF xs) (bareF ys) = refSameRows xs ys (max xs.length ys.length) := by
    rw [Bool.eq_iff_iff, rowsEqB_iff, refSameRows_iff, bareF_eq, bareF_eq, bareL_iff]
    constructor
    · intro h i _
      rw [← map_at, ← map_at, h]
    · intro h i
      rw [map_at, map_at]
      rcases Nat.lt_or_ge i (max xs.length ys.length) with hi | hi
      · exact h i hi
      · have e1 : cellsAt xs i = [] := by unfold cellsAt; simp only [List.getD]; rw [List.getElem?_eq_none (by omega)]; rfl
        have e2 : cellsAt ys i = [] := by unfold cellsAt; simp only [List.getD]; rw [List.getElem?_eq_none (by omega)]; rfl
        rw [e1, e2]
  unfold sameF refSameF
  rw [key, Bool.and_comm]
end Go.Proofs.YthpfhlhoekgpjaaDoor
