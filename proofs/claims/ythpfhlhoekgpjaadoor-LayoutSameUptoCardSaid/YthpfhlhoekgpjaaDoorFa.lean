/- LayoutFlows: the plain law. -/
import Derived.Test.YthpfhlhoekgpjaaDoorR
set_option linter.unusedVariables false
set_option linter.unusedSimpArgs false
namespace Go.Proofs.YthpfhlhoekgpjaaDoor
open Go.RowKit

theorem joinF_wd (l : List Cell) (s : ByteArray) (h : ∀ c ∈ l, c.wd ≠ 2) : ∀ c ∈ joinF l s, c.wd ≠ 2 := by
  intro c hc
  unfold joinF at hc
  split at hc
  · split at hc
    · rename_i i hi c0 hc0
      split at hc
      · rcases List.mem_or_eq_of_mem_set hc with hc | rfl
        · exact h c hc
        · exact h c0 (List.mem_of_getElem? hc0)
      · exact h c hc
    · exact h c hc
  · rcases List.mem_append.1 hc with hc | hc
    · exact h c hc
    · rw [List.mem_singleton.1 hc]; simp [oneC]
theorem cellsStep_wd (out : List Cell) (r : Int) (hr : widthF r ≠ 2) (h : ∀ c ∈ out, c.wd ≠ 2) : ∀ c ∈ cellsStep out r, c.wd ≠ 2 := by
  intro c hc
  unfold cellsStep at hc
  split at hc
  · rcases List.mem_append.1 hc with hc | hc
    · exact h c hc
    · rw [(List.mem_replicate.1 hc).2]; simp [oneC]
  · split at hc
    · rcases List.mem_append.1 hc with hc | hc
      · exact h c hc
      · rcases List.mem_cons.1 hc with rfl | hc
        · simp [oneC]
        · rw [List.mem_singleton.1 hc]; simp [oneC]
    · split at hc
      · rcases List.mem_append.1 hc with hc | hc
        · exact h c hc
        · rw [List.mem_singleton.1 hc]; simp [oneC]
      · split at hc
        · exact joinF_wd _ _ h c hc
        · rcases List.mem_append.1 hc with hc | hc
          · exact h c hc
          · rw [List.mem_singleton.1 hc]; simp [oneC]
theorem cellsF_wd (l : List Int) (h : ∀ r ∈ l, widthF r ≠ 2) : ∀ c ∈ cellsF l, c.wd ≠ 2 := by
  have : ∀ (l : List Int) (out : List Cell), (∀ r ∈ l, widthF r ≠ 2) → (∀ c ∈ out, c.wd ≠ 2) → ∀ c ∈ l.foldl cellsStep out, c.wd ≠ 2 := by
    intro l
    induction l with
    | nil => intro out _ ho; exact ho
    | cons r l ih => intro out hl ho; exact ih _ (fun x hx => hl x (List.mem_cons_of_mem _ hx)) (cellsStep_wd out r (hl r (List.mem_cons_self ..)) ho)
  exact this l [] h (by simp)
theorem cutRun_flow (cols : Nat) (hc : 0 < cols) (cu : Int) (cells : List Cell) (h : ∀ c ∈ cells, c.wd ≠ 2) : ∀ k, k ≤ cells.length →
    (cutRun cols cu cells k).done.flatten ++ (cutRun cols cu cells k).cur = cells.take k ∧ (∀ r ∈ (cutRun cols cu cells k).done, r.length = cols) ∧ (cutRun cols cu cells k).cur.length ≤ cols
  | 0, _ => by simp [cutRun]
  | k + 1, hk => by
    obtain ⟨h1, h2, h3⟩ := cutRun_flow cols hc cu cells h k (by omega)
    rw [cutRun_succ _ _ _ _ (by omega)]
    have hw : ¬ (cells[k].wd = 2 ∧ (cutRun cols cu cells k).cur.length + 1 = cols) := fun e => h cells[k] (List.getElem_mem _) e.1
    simp only [cutStep, cutPre, if_neg hw]
    by_cases hf : (cutRun cols cu cells k).cur.length = cols
    · simp only [if_pos hf]
      refine ⟨?_, ?_, by simp; omega⟩
      · rw [List.flatten_append, List.take_add_one, List.getElem?_eq_getElem (by omega), ← h1]
        simp
      · intro r hr
        rcases List.mem_append.1 hr with hr | hr
        · exact h2 r hr
        · rw [List.mem_singleton.1 hr]; exact hf
    · simp only [if_neg hf]
      refine ⟨?_, h2, by simp; omega⟩
      rw [List.take_add_one, List.getElem?_eq_getElem (by omega), ← h1]
      simp
def flowRows (line : List Int) (cols : Nat) : List (List Cell) := (rowsF [] line 0 cols false).1
theorem flow_at0 (line : List Int) : curF line 0 = 0 := by
  unfold curF
  split
  · rename_i h
    have : line = [] := List.length_eq_zero_iff.1 (by omega)
    subst this
    rfl
  · rfl
theorem flowRows_eq (line : List Int) (cols : Nat) : flowRows line cols = (cutF (cellsF line) cols 0).1 := by
  have h1 : splitNL (seenF []) = ([], []) := rfl
  unfold flowRows rowsF placeF
  rw [h1]
  simp only [List.map_nil, headRows, List.flatMap_nil, List.nil_append, Bool.false_eq_true, if_false, List.length_nil, Nat.zero_add, Nat.add_zero, flow_at0]
  rfl
theorem flows_key (line : List Int) (cols : Nat) (hc : 8 ≤ cols) (h : ∀ r ∈ line, widthF r ≠ 2) (F : List (List Cell)) (e : F = (cutF (cellsF line) cols 0).1) :
    F.flatten = cellsF line ∧ ∀ i (hi : i + 1 < F.length), F[i].length = cols := by
  obtain ⟨h1, h2, h3⟩ := cutRun_flow cols (by omega) 0 (cellsF line) (cellsF_wd line h) (cellsF line).length (Nat.le_refl _)
  rw [List.take_length] at h1
  have key : (cutF (cellsF line) cols 0).1 = (cutRun cols 0 (cellsF line) (cellsF line).length).done ++ [(cutRun cols 0 (cellsF line) (cellsF line).length).cur] := by
    simp only [cutF]
    split
    · rename_i e
      have e0 : (cellsF line).length = 0 := by omega
      have hcu : (cutRun cols 0 (cellsF line) (cellsF line).length).cur = [] := by rw [e0]; rfl
      rw [if_neg (by rw [hcu]; simp; omega)]
    · rfl
  rw [key] at e
  subst e
  refine ⟨by simpa using h1, ?_⟩
  intro i hi
  have hi2 : i < (cutRun cols 0 (cellsF line) (cellsF line).length).done.length := by simp at hi; omega
  rw [List.getElem_append_left hi2]
  exact h2 _ (List.getElem_mem _)
theorem flows_law (line : List Int) (cols : Nat) (hc : 8 ≤ cols) (h : ∀ r ∈ line, widthF r ≠ 2) :
    (flowRows line cols).flatten = cellsF line ∧ ∀ i (hi : i + 1 < (flowRows line cols).length), (flowRows line cols)[i].length = cols :=
  flows_key line cols hc h _ (flowRows_eq line cols)
end Go.Proofs.YthpfhlhoekgpjaaDoor
