/- layout.Rows. -/
import Derived.Test.YthpfhlhoekgpjaaDoorM
import Derived.Test.YthpfhlhoekgpjaaDoorN
import Derived.Test.YthpfhlhoekgpjaaDoorJ
set_option linter.unusedVariables false
set_option linter.unusedSimpArgs false
namespace Go.Proofs.YthpfhlhoekgpjaaDoor
open Go.RowKit

/-! ### Bounds -/
theorem cutRun_len (cols : Nat) (cursor : Int) (cells : List Cell) : ∀ k, k ≤ cells.length → (cutRun cols cursor cells k).done.length ≤ k
  | 0, _ => by simp [cutRun]
  | k + 1, h => by
    have ih := cutRun_len cols cursor cells k (by omega)
    rw [cutRun_succ _ _ _ _ (by omega)]
    have hp : ∀ c, (cutPre cols (cutRun cols cursor cells k).done (cutRun cols cursor cells k).cur c).1.length ≤ (cutRun cols cursor cells k).done.length + 1 := by
      intro c
      simp only [cutPre]
      generalize (if c.wd = 2 ∧ (cutRun cols cursor cells k).cur.length + 1 = cols then (cutRun cols cursor cells k).cur ++ [blankC] else (cutRun cols cursor cells k).cur) = z
      split <;> simp
    have := hp cells[k]
    simp only [cutStep]
    omega
theorem cutF_len (cells : List Cell) (cols : Nat) (cursor : Int) : (cutF cells cols cursor).1.length ≤ cells.length + 2 := by
  have := cutRun_len cols cursor cells cells.length (Nat.le_refl _)
  simp only [cutF]
  split
  · split <;> simp <;> omega
  · simp; omega
theorem cutRun_row (cols : Nat) (cursor : Int) (cells : List Cell) : ∀ k, k ≤ cells.length → (cutRun cols cursor cells k).row ≤ (cutRun cols cursor cells k).done.length
  | 0, _ => by simp [cutRun]
  | k + 1, h => by
    have ih := cutRun_row cols cursor cells k (by omega)
    rw [cutRun_succ _ _ _ _ (by omega)]
    have hp : ∀ c, (cutRun cols cursor cells k).done.length ≤ (cutPre cols (cutRun cols cursor cells k).done (cutRun cols cursor cells k).cur c).1.length := by
      intro c
      simp only [cutPre]
      generalize (if c.wd = 2 ∧ (cutRun cols cursor cells k).cur.length + 1 = cols then (cutRun cols cursor cells k).cur ++ [blankC] else (cutRun cols cursor cells k).cur) = z
      split <;> simp
    have := hp cells[k]
    simp only [cutStep]
    split <;> omega
theorem cutF_row (cells : List Cell) (cols : Nat) (cursor : Int) : (cutF cells cols cursor).2.1 < (cutF cells cols cursor).1.length := by
  have := cutRun_row cols cursor cells cells.length (Nat.le_refl _)
  simp only [cutF]
  split
  · split <;> simp
  · simp; omega
theorem splitNL_len : ∀ l : List Int, (splitNL l).1.length ≤ l.length ∧ (splitNL l).2.length ≤ l.length ∧ ∀ h ∈ (splitNL l).1, h.length ≤ l.length
  | [] => by simp [splitNL]
  | r :: t => by
    obtain ⟨h1, h2, h3⟩ := splitNL_len t
    by_cases hr : r = 10
    · rw [splitNL, if_pos hr]
      refine ⟨by simp; omega, by simp; omega, ?_⟩
      intro h hh
      rcases List.mem_cons.1 hh with rfl | hh
      · simp
      · have := h3 h hh; simp; omega
    · rw [splitNL, if_neg hr]
      cases he : (splitNL t).1 with
      | nil => exact ⟨by simp, by simpa using h2, by simp⟩
      | cons p hs =>
        rw [he] at h1 h3
        refine ⟨by simp at h1 ⊢; omega, by simp; omega, ?_⟩
        intro h hh
        rcases List.mem_cons.1 hh with rfl | hh
        · have := h3 p (List.mem_cons_self ..); simp; omega
        · have := h3 h (List.mem_cons_of_mem _ hh); simp; omega
theorem cells_fold_len (b : List Int) : ∀ s : List Cell, s.length ≤ (b.foldl cellsStep s).length := by
  induction b with
  | nil => intro s; exact Nat.le_refl _
  | cons r b ih => intro s; exact Nat.le_trans (cellsStep_len s r).1 (ih _)
theorem cellsF_take_len (l : List Int) (n : Nat) : (cellsF (l.take n)).length ≤ (cellsF l).length := by
  conv => rhs; rw [← List.take_append_drop n l]
  unfold cellsF
  rw [List.foldl_append]
  exact cells_fold_len _ _
theorem curF_le (all : List Int) (at_ : Nat) : curF all at_ ≤ (cellsF all).length := by
  unfold curF
  split
  · exact Nat.le_refl _
  · exact cellsF_take_len _ _

/-! ### The rows -/
def headRows (cols : Nat) (heads : List (List Cell)) : List (List Cell) := heads.flatMap (fun h => (cutF h cols (-1)).1)
def placeF (out : List (List Cell)) (cells : List Cell) (cols at_ : Nat) (across : Bool) : List (List Cell) × Nat × Nat :=
  if across then (out ++ [(acrossF cells cols at_).1], out.length, (acrossF cells cols at_).2)
  else (out ++ (cutF cells cols at_).1, (cutF cells cols at_).2.1 + out.length, (cutF cells cols at_).2.2)
def rowsF (prompt line : List Int) (point cols : Nat) (across : Bool) : List (List Cell) × Nat × Nat :=
  placeF (headRows cols ((splitNL (seenF prompt)).1.map cellsF)) (cellsF ((splitNL (seenF prompt)).2 ++ line)) cols (curF ((splitNL (seenF prompt)).2 ++ line) ((splitNL (seenF prompt)).2.length + point)) across
theorem headRows_succ (cols : Nat) (heads : List (List Cell)) (k : Nat) (hk : k < heads.length) : headRows cols (heads.take (k + 1)) = headRows cols (heads.take k) ++ (cutF heads[k] cols (-1)).1 := by
  unfold headRows
  rw [List.take_add_one, List.flatMap_append]
  simp [hk]

/-- Element k of rows that are read. -/
theorem OR.at_ {w : World} {B : Nat} {v : Value} {ll : List (List Cell)} (h : OR w B v ll) {k : Nat} (hk : k < ll.length) :
    ∃ g cap A c, v = .slice (some ⟨g, 0, none⟩) ll.length cap ∧ ll.length ≤ cap ∧ cap ≤ maxLen ∧ w.cell? ⟨g, k, none⟩ = some (.slice A ll[k].length c) ∧ Hd (OC w B (.slice A ll[k].length c) ll[k]) := by
  obtain ⟨vs, h1, h2⟩ := h
  have hl := h2.length
  obtain ⟨g, cap, rfl, k1, k2, k3, k4⟩ := own_form h1 (by omega)
  have hc := World.ownsRow.cellAt h1 k (by omega)
  have ho := h2.get k (by omega) hk
  obtain ⟨A, c, e⟩ := own_slice ho
  refine ⟨g, cap, A, c, rfl, k3, k4, ?_, ⟨by rw [← e]; exact ho⟩⟩
  rw [hc, ← e]
  simp [hl, hk]
theorem OR.slice {w : World} {B : Nat} {v : Value} {ll : List (List Cell)} (h : OR w B v ll) : ∃ A c, v = .slice A ll.length c := by
  obtain ⟨vs, h1, _⟩ := h
  exact own_slice h1
end Go.Proofs.YthpfhlhoekgpjaaDoor
