/- LayoutGrows: the plain law. -/
import Derived.Test.YthpfhlhoekgpjaaDoorZ
set_option linter.unusedVariables false
set_option linter.unusedSimpArgs false
namespace Go.Proofs.YthpfhlhoekgpjaaDoor
open Go.RowKit

theorem cellsStep_app (out : List Cell) (r : Int) (hr : widthF r ≠ 0 ∨ controlB r = true) : ∃ x, cellsStep out r = out ++ x ∧ x ≠ [] := by
  unfold cellsStep
  split
  · refine ⟨_, rfl, ?_⟩
    intro e
    have := congrArg List.length e
    simp at this
    omega
  · split
    · exact ⟨_, rfl, by simp⟩
    · split
      · exact ⟨_, rfl, by simp⟩
      · rename_i h3
        split
        · rename_i h4
          rcases hr with h | h
          · exact absurd h4 h
          · exact absurd (Or.inr h) h3
        · split
          · exact ⟨_, rfl, by simp⟩
          · exact ⟨_, rfl, by simp⟩
/-- The run over the first k cells does not hang on what is behind them. -/
theorem cutRun_more (cols : Nat) (cu : Int) (cells x : List Cell) : ∀ k, k ≤ cells.length → cutRun cols cu (cells ++ x) k = cutRun cols cu cells k
  | 0, _ => rfl
  | k + 1, h => by
    rw [cutRun_succ _ _ _ _ (by simp; omega), cutRun_succ _ _ _ _ (by omega), cutRun_more cols cu cells x k (by omega), List.getElem_append_left (by omega)]
theorem cutPre_pre (cols : Nat) (done : List (List Cell)) (cur : List Cell) (c : Cell) : done <+: (cutPre cols done cur c).1 := by
  simp only [cutPre]
  generalize (if c.wd = 2 ∧ cur.length + 1 = cols then cur ++ [blankC] else cur) = z
  split
  · exact List.prefix_append _ _
  · exact List.prefix_refl _
theorem cutRun_pre (cols : Nat) (cu : Int) (cells : List Cell) (m : Nat) : ∀ n, m + n ≤ cells.length → (cutRun cols cu cells m).done <+: (cutRun cols cu cells (m + n)).done
  | 0, _ => List.prefix_refl _
  | n + 1, h => by
    refine (cutRun_pre cols cu cells m n (by omega)).trans ?_
    rw [← Nat.add_assoc, cutRun_succ _ _ _ _ (by omega)]
    exact cutPre_pre _ _ _ _
theorem cutRun_full (cols : Nat) (cu : Int) (cells : List Cell) (n : Nat) (hn : n < cells.length) (hf : (cutRun cols cu cells n).cur.length = cols) : (cutRun cols cu cells (n + 1)).done.length = (cutRun cols cu cells n).done.length + 1 := by
  have hc : ¬ (cells[n].wd = 2 ∧ (cutRun cols cu cells n).cur.length + 1 = cols) := fun e => by have := e.2; omega
  rw [cutRun_succ _ _ _ _ hn]
  simp only [cutStep, cutPre, if_neg hc, if_pos hf]
  simp
theorem cutF_grow (cells x : List Cell) (cols : Nat) (hx : x ≠ []) (cu' : Int) : ∃ P, P <+: (cutF cells cols cells.length).1 ∧ P <+: (cutF (cells ++ x) cols cu').1 ∧ (cutF cells cols cells.length).1.length ≤ P.length + 2 ∧ (cutF cells cols cells.length).1.length ≤ (cutF (cells ++ x) cols cu').1.length := by
  have hx0 : 0 < x.length := List.length_pos_iff.2 hx
  have h1 := cutRun_more cols cu' cells x cells.length (Nat.le_refl _)
  obtain ⟨f1, f2⟩ := cutRun_free cols cells.length cu' cells cells.length (Nat.le_refl _)
  have h2 := cutRun_pre cols cu' (cells ++ x) cells.length x.length (by simp)
  have h3 := cutRun_full cols cu' (cells ++ x) cells.length (by simp; omega)
  have h4 := cutRun_pre cols cu' (cells ++ x) (cells.length + 1) (x.length - 1) (by simp; omega)
  rw [show cells.length + 1 + (x.length - 1) = cells.length + x.length by omega] at h4
  rw [h1] at h2 h3
  rw [← f1] at h2 h3
  rw [← f2] at h3
  have hpre : ∀ s : CutS, (cutRun cols cu' (cells ++ x) (cells ++ x).length) = s → s.done <+: (cutF (cells ++ x) cols cu').1 ∧ s.done.length + 1 ≤ (cutF (cells ++ x) cols cu').1.length := by
    rintro s rfl
    simp only [cutF]
    split
    · split
      · exact ⟨List.prefix_append _ _, by simp⟩
      · exact ⟨List.prefix_append _ _, by simp⟩
    · exact ⟨List.prefix_append _ _, by simp⟩
  obtain ⟨p1, p2⟩ := hpre _ rfl
  rw [List.length_append] at p1 p2
  have l2 := h2.length_le
  generalize (cutF (cells ++ x) cols cu').1 = G at *
  have l4 := h4.length_le
  refine ⟨(cutRun cols cells.length cells cells.length).done, ?_, h2.trans p1, ?_, ?_⟩
  · simp only [cutF, ↓reduceIte]
    split
    · exact List.prefix_append _ _
    · exact List.prefix_append _ _
  · simp only [cutF, ↓reduceIte]
    split <;> simp
  · simp only [cutF, ↓reduceIte]
    split
    · rename_i hf
      have := h3 hf
      simp only [List.length_append, List.length_cons, List.length_nil]
      omega
    · simp only [List.length_append, List.length_cons, List.length_nil]
      omega
theorem grows_law (prompt line : List Int) (r : Int) (cols : Nat) (hr : widthF r ≠ 0 ∨ controlB r = true) :
    (rowsF prompt line line.length cols false).1.length ≤ (rowsF prompt (line ++ [r]) (line.length + 1) cols false).1.length ∧
    ∀ i, i + 2 < (rowsF prompt line line.length cols false).1.length → (rowsF prompt line line.length cols false).1[i]? = (rowsF prompt (line ++ [r]) (line.length + 1) cols false).1[i]? := by
  unfold rowsF placeF
  simp only [Bool.false_eq_true, if_false]
  generalize (splitNL (seenF prompt)).2 = rest
  generalize headRows cols _ = heads
  have e1 : curF (rest ++ line) (rest.length + line.length) = (cellsF (rest ++ line)).length := by
    rw [curF, if_pos (by simp)]
  have e2 : cellsF (rest ++ (line ++ [r])) = cellsStep (cellsF (rest ++ line)) r := by
    rw [← List.append_assoc]; unfold cellsF; rw [List.foldl_append]; rfl
  obtain ⟨x, hx, hx0⟩ := cellsStep_app (cellsF (rest ++ line)) r hr
  rw [e1, e2, hx]
  generalize curF (rest ++ (line ++ [r])) (rest.length + (line.length + 1)) = cu'
  obtain ⟨P, p1, p2, p3, p4⟩ := cutF_grow (cellsF (rest ++ line)) x cols hx0 cu'
  generalize (cutF (cellsF (rest ++ line)) cols (cellsF (rest ++ line)).length).1 = a at *
  generalize (cutF (cellsF (rest ++ line) ++ x) cols cu').1 = b at *
  refine ⟨by simp; omega, ?_⟩
  intro i hi
  obtain ⟨ta, rfl⟩ := p1
  obtain ⟨tb, rfl⟩ := p2
  have hiP : i < (heads ++ P).length := by
    simp only [List.length_append] at hi p3 ⊢
    omega
  simp only [← List.append_assoc]
  rw [List.getElem?_append_left hiP, List.getElem?_append_left hiP]
end Go.Proofs.YthpfhlhoekgpjaaDoor
