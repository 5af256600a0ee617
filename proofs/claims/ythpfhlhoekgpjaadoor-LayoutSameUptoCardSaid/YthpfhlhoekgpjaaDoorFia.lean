/- LayoutFits: the plain law. -/
import Derived.Test.YthpfhlhoekgpjaaDoorR
set_option linter.unusedVariables false
set_option linter.unusedSimpArgs false
namespace Go.Proofs.YthpfhlhoekgpjaaDoor
open Go.RowKit

/-! ### Halves of wide cells stand together: a machine of three states over widths -/
inductive WS where
  | ok | pend | bad
def stepW (s : WS) (c : Cell) : WS :=
  match s with
  | .ok => if c.wd = 2 then .pend else if c.wd = 0 then .bad else .ok
  | .pend => if c.wd = 0 then .ok else .bad
  | .bad => .bad
def runW (l : List Cell) : WS := l.foldl stepW .ok
theorem runW_append (l m : List Cell) : runW (l ++ m) = m.foldl stepW (runW l) := by simp [runW]
theorem runW_snoc (l : List Cell) (c : Cell) : runW (l ++ [c]) = stepW (runW l) c := by simp [runW]
theorem runW_succ (l : List Cell) (k : Nat) (hk : k < l.length) : runW (l.take (k + 1)) = stepW (runW (l.take k)) l[k] := by
  rw [List.take_add_one, List.getElem?_eq_getElem hk]
  exact runW_snoc _ _
theorem bad_fold (m : List Cell) : m.foldl stepW .bad = .bad := by
  induction m with
  | nil => rfl
  | cons c m ih => exact ih
theorem runW_bad {l : List Cell} (h : runW l ≠ .bad) (k : Nat) : runW (l.take k) ≠ .bad := by
  intro e
  apply h
  rw [← List.take_append_drop k l, runW_append, e, bad_fold]
theorem runW_pend {l : List Cell} {k : Nat} (hk : k ≤ l.length) (h : runW (l.take k) = .pend) : 0 < k ∧ widAt l (k - 1) = 2 := by
  cases k with
  | zero => simp [runW] at h
  | succ k =>
    rw [runW_succ l k hk] at h
    refine ⟨by omega, ?_⟩
    rw [Nat.add_sub_cancel, widAt_get hk]
    revert h
    cases runW (l.take k) with
    | ok => simp only [stepW]; split
            · intro _; assumption
            · split <;> (intro h; cases h)
    | pend => simp only [stepW]; split <;> (intro h; cases h)
    | bad => intro h; cases h
theorem runW_ok {l : List Cell} {k : Nat} (hk : k ≤ l.length) (h : runW (l.take k) = .ok) : k = 0 ∨ widAt l (k - 1) ≠ 2 := by
  cases k with
  | zero => exact .inl rfl
  | succ k =>
    rw [runW_succ l k hk] at h
    right
    rw [Nat.add_sub_cancel, widAt_get hk]
    intro e
    revert h
    cases runW (l.take k) with
    | ok => simp [stepW, e]
    | pend => simp [stepW, e]
    | bad => intro h; cases h
/-- No half stands alone where the machine ends well. -/
theorem whole_lone {l : List Cell} (h : runW l = .ok) (k : Nat) (hk : k < l.length) : loneB l k = false := by
  have hb := runW_bad (l := l) (by rw [h]; intro e; cases e)
  have h1 := runW_succ l k hk
  have hw := widAt_get hk
  by_cases h2 : l[k].wd = 2
  · have hs : runW (l.take (k + 1)) = .pend := by
      have := hb (k + 1)
      rw [h1] at this ⊢
      revert this
      cases runW (l.take k) <;> simp [stepW, h2]
    have hlt : k + 1 < l.length := by
      rcases Nat.lt_or_ge (k + 1) l.length with h | h'
      · exact h
      · rw [List.take_of_length_le h', h] at hs; cases hs
    have h3 := runW_succ l (k + 1) hlt
    rw [hs] at h3
    have h4 : l[k + 1].wd = 0 := by
      have := hb (k + 2)
      rw [h3] at this
      simp only [stepW] at this
      split at this
      · assumption
      · exact absurd rfl this
    have h5 := widAt_get hlt
    simp [loneB, hw, h2, h5, h4]
    omega
  · by_cases h0 : l[k].wd = 0
    · have hs : runW (l.take k) = .pend := by
        have := hb (k + 1)
        rw [h1] at this
        revert this
        cases runW (l.take k) <;> simp [stepW, h0]
      obtain ⟨h6, h7⟩ := runW_pend (by omega) hs
      simp [loneB, hw, h0, h7]
      omega
    · simp [loneB, hw, h2, h0]

/-! ### Places of runes are whole -/
theorem runW_wd {l m : List Cell} (h : l.map (·.wd) = m.map (·.wd)) : runW l = runW m := by
  have key : ∀ (l m : List Cell) (s : WS), l.map (·.wd) = m.map (·.wd) → l.foldl stepW s = m.foldl stepW s := by
    intro l
    induction l with
    | nil => intro m s h; cases m with
      | nil => rfl
      | cons _ _ => simp at h
    | cons c l ih => intro m s h; cases m with
      | nil => simp at h
      | cons d m =>
        simp only [List.map_cons, List.cons.injEq] at h
        simp only [List.foldl_cons]
        have : stepW s c = stepW s d := by cases s <;> simp [stepW, h.1]
        rw [this]
        exact ih m _ h.2
  exact key l m .ok h
theorem joinF_whole {l : List Cell} (h : runW l = .ok) (s : ByteArray) : runW (joinF l s) = .ok := by
  unfold joinF
  split
  · split
    · rename_i i hi c0 hc0
      split
      · rw [← h]
        refine runW_wd ?_
        rw [List.map_set]
        obtain ⟨h1, h2⟩ := List.getElem?_eq_some_iff.1 hc0
        refine List.ext_getElem (by simp) ?_
        intro j hj1 hj2
        rw [List.getElem_set]
        split
        · rename_i e; subst e; simp [h2]
        · rfl
      · exact h
    · exact h
  · rw [runW_snoc, h]; simp [stepW, oneC]
theorem fold_ones (m : List Cell) (h : ∀ c ∈ m, c.wd = 1) : m.foldl stepW .ok = .ok := by
  induction m with
  | nil => rfl
  | cons c m ih =>
    have h1 : stepW .ok c = .ok := by simp [stepW, h c (List.mem_cons_self ..)]
    rw [List.foldl_cons, h1]
    exact ih (fun x hx => h x (List.mem_cons_of_mem _ hx))
theorem cellsStep_whole {out : List Cell} (h : runW out = .ok) (r : Int) : runW (cellsStep out r) = .ok := by
  unfold cellsStep
  split
  · rw [runW_append, h]
    refine fold_ones _ ?_
    intro c hc
    rw [(List.mem_replicate.1 hc).2]; rfl
  · split
    · rw [runW_append, h]; rfl
    · split
      · rw [runW_append, h]; rfl
      · split
        · exact joinF_whole h _
        · split
          · rw [runW_append, h]; rfl
          · rw [runW_append, h]; rfl
theorem cellsF_whole (l : List Int) : runW (cellsF l) = .ok := by
  have : ∀ (l : List Int) (out : List Cell), runW out = .ok → runW (l.foldl cellsStep out) = .ok := by
    intro l
    induction l with
    | nil => intro out h; exact h
    | cons r l ih => intro out h; exact ih _ (cellsStep_whole h r)
  exact this l [] rfl

/-! ### cut keeps them whole -/
theorem cutRun_whole (cols : Nat) (hc : 2 ≤ cols) (cu : Int) (cells : List Cell) (h : runW cells = .ok) : ∀ k, k ≤ cells.length →
    (∀ r ∈ (cutRun cols cu cells k).done, runW r = .ok) ∧ runW (cutRun cols cu cells k).cur = runW (cells.take k) ∧ (runW (cells.take k) = .pend → (cutRun cols cu cells k).cur.length < cols)
  | 0, _ => ⟨by simp [cutRun], rfl, by simp [runW]⟩
  | k + 1, hk => by
    obtain ⟨h1, h2, h3⟩ := cutRun_whole cols hc cu cells h k (by omega)
    have hw := (cutRun_wide cols (by omega) cu cells k (by omega)).2
    have hb := runW_bad (l := cells) (by rw [h]; intro e; cases e)
    have hb1 := hb (k + 1)
    have hb0 := hb k
    have hs := runW_succ cells k (by omega)
    rw [cutRun_succ _ _ _ _ (by omega)]
    rw [hs] at hb1 ⊢
    generalize cutRun cols cu cells k = S at *
    generalize runW (cells.take k) = s at *
    generalize cells[k] = c at *
    simp only [cutStep, cutPre]
    have g1 : ∀ c : Cell, runW [c] = stepW .ok c := fun _ => rfl
    by_cases hp : c.wd = 2 ∧ S.cur.length + 1 = cols
    · have hok : s = .ok := by cases s <;> simp_all [stepW]
      subst hok
      have hl : (S.cur ++ [blankC]).length = cols := by simp; omega
      simp only [if_pos hp, if_pos hl, List.nil_append]
      refine ⟨?_, g1 c, fun _ => by simp; omega⟩
      intro r hr
      rcases List.mem_append.1 hr with hr | hr
      · exact h1 r hr
      · rw [List.mem_singleton.1 hr, runW_snoc, h2]; rfl
    · simp only [if_neg hp]
      by_cases hf : S.cur.length = cols
      · have hok : s = .ok := by
          cases s with
          | ok => rfl
          | pend => have := h3 rfl; omega
          | bad => exact absurd rfl hb0
        subst hok
        simp only [if_pos hf, List.nil_append]
        refine ⟨?_, g1 c, fun _ => by simp; omega⟩
        intro r hr
        rcases List.mem_append.1 hr with hr | hr
        · exact h1 r hr
        · rw [List.mem_singleton.1 hr]; exact h2
      · simp only [if_neg hf]
        refine ⟨h1, by rw [runW_snoc, h2], ?_⟩
        intro e
        have h2' : c.wd = 2 := by
          cases s with
          | ok => simp only [stepW] at e; split at e
                  · assumption
                  · split at e <;> cases e
          | pend => simp only [stepW] at e; split at e <;> cases e
          | bad => cases e
        have : ¬ S.cur.length + 1 = cols := fun e => hp ⟨h2', e⟩
        simp
        omega
theorem cutF_whole (cols : Nat) (hc : 2 ≤ cols) (cu : Int) (cells : List Cell) (h : runW cells = .ok) : ∀ r ∈ (cutF cells cols cu).1, runW r = .ok := by
  obtain ⟨h1, h2, _⟩ := cutRun_whole cols hc cu cells h cells.length (Nat.le_refl _)
  rw [List.take_length, h] at h2
  intro r hr
  simp only [cutF] at hr
  split at hr
  · split at hr
    · rcases List.mem_append.1 hr with hr | hr
      · exact h1 r hr
      · rcases List.mem_cons.1 hr with rfl | hr
        · exact h2
        · rw [List.mem_singleton.1 hr]; rfl
    · rcases List.mem_append.1 hr with hr | hr
      · exact h1 r hr
      · rw [List.mem_singleton.1 hr]; exact h2
  · rcases List.mem_append.1 hr with hr | hr
    · exact h1 r hr
    · rw [List.mem_singleton.1 hr]; exact h2

/-! ### lone makes them whole -/
theorem widAt_set_ne (l : List Cell) (k j : Nat) (c : Cell) (h : k ≠ j) : widAt (l.set k c) j = widAt l j := by
  unfold widAt
  rw [List.getElem?_set_ne h]
theorem lone_inv (l : List Cell) : ∀ k, k ≤ l.length → runW (((List.range k).foldl loneStep l).take k) ≠ .bad ∧
    (runW (((List.range k).foldl loneStep l).take k) = .pend → k < l.length ∧ widAt ((List.range k).foldl loneStep l) k = 0)
  | 0, _ => by simp [runW]
  | k + 1, hk => by
    obtain ⟨h1, h2⟩ := lone_inv l k (by omega)
    have hlen : ((List.range k).foldl loneStep l).length = l.length := by
      have : ∀ (ks : List Nat) (cur : List Cell), (ks.foldl loneStep cur).length = cur.length := by
        intro ks
        induction ks with
        | nil => intro cur; rfl
        | cons k ks ih => intro cur; rw [List.foldl_cons, ih, loneStep_len]
      exact this _ _
    rw [lone_succ]
    generalize (List.range k).foldl loneStep l = cur at *
    have hkc : k < cur.length := by omega
    have hpo := runW_pend (l := cur) (k := k) (by omega)
    have hok := runW_ok (l := cur) (k := k) (by omega)
    have hwk := widAt_get hkc
    have hset : runW ((cur.set k blankC).take (k + 1)) = stepW (runW (cur.take k)) blankC := by
      rw [runW_succ _ _ (by simpa using hkc), List.take_set_of_le (Nat.le_refl _), List.getElem_set_self]
    have hkeep := runW_succ cur k hkc
    have hst : ∀ s : WS, s = .ok → stepW s blankC = .ok := by rintro s rfl; rfl
    cases hs : runW (cur.take k) with
    | bad => exact absurd hs h1
    | pend =>
      obtain ⟨h3, h4⟩ := h2 hs
      obtain ⟨h5, h6⟩ := hpo hs
      have hl : loneB cur k = false := by simp [loneB, h4, h6]; omega
      have hw0 : cur[k].wd = 0 := by rw [← hwk]; exact h4
      simp only [loneStep, hl, Bool.false_eq_true, if_false]
      rw [hkeep, hs]
      simp only [stepW, hw0, if_true]
      exact ⟨fun e => (by cases e), fun e => (by cases e)⟩
    | ok =>
      have hprev := hok hs
      cases hl : loneB cur k with
      | true =>
        simp only [loneStep, hl, if_true]
        rw [hset, hst _ hs]
        exact ⟨fun e => (by cases e), fun e => (by cases e)⟩
      | false =>
        simp only [loneStep, hl, Bool.false_eq_true, if_false]
        rw [hkeep, hs]
        by_cases h2' : cur[k].wd = 2
        · have hn : k + 1 < cur.length ∧ widAt cur (k + 1) = 0 := by
            simp [loneB, hwk, h2'] at hl
            exact ⟨by omega, hl.2⟩
          simp only [stepW, h2', if_true]
          exact ⟨fun e => (by cases e), fun _ => ⟨by omega, hn.2⟩⟩
        · have h0 : cur[k].wd ≠ 0 := by
            intro e
            simp [loneB, hwk, h2', e] at hl
            rcases hprev with h | h
            · omega
            · exact h hl.2
          simp only [stepW, if_neg h2', if_neg h0]
          exact ⟨fun e => (by cases e), fun e => (by cases e)⟩
theorem loneF_whole (l : List Cell) : runW (loneF l) = .ok := by
  obtain ⟨h1, h2⟩ := lone_inv l l.length (Nat.le_refl _)
  have hlen : (loneF l).length = l.length := loneF_len l
  change runW ((loneF l).take l.length) ≠ .bad at h1
  change runW ((loneF l).take l.length) = .pend → _ at h2
  rw [List.take_of_length_le (by omega)] at h1 h2
  cases h : runW (loneF l) with
  | ok => rfl
  | pend => have := (h2 h).1; omega
  | bad => exact absurd h h1
theorem acrossF_whole (cells : List Cell) (cols at_ : Nat) (h : runW cells = .ok) : runW (acrossF cells cols at_).1 = .ok := by
  by_cases hm : cells.length + (if at_ = cells.length then 1 else 0) ≤ cols
  · rw [acrossF, if_pos hm]; exact h
  · rw [acrossF, if_neg hm]; exact loneF_whole _
theorem rowsF_whole (prompt line : List Int) (point cols : Nat) (across : Bool) (hc : 2 ≤ cols) : ∀ r ∈ (rowsF prompt line point cols across).1, runW r = .ok := by
  have hh : ∀ r ∈ headRows cols ((splitNL (seenF prompt)).1.map cellsF), runW r = .ok := by
    intro r hr
    obtain ⟨h, hm, hr⟩ := List.mem_flatMap.1 hr
    obtain ⟨x, _, rfl⟩ := List.mem_map.1 hm
    exact cutF_whole cols hc _ _ (cellsF_whole x) r hr
  intro r hr
  unfold rowsF at hr
  generalize headRows cols ((splitNL (seenF prompt)).1.map cellsF) = out at *
  cases across with
  | true =>
    simp only [placeF, if_true] at hr
    rcases List.mem_append.1 hr with hr | hr
    · exact hh r hr
    · rw [List.mem_singleton.1 hr]; exact acrossF_whole _ _ _ (cellsF_whole _)
  | false =>
    simp only [placeF, Bool.false_eq_true, if_false] at hr
    rcases List.mem_append.1 hr with hr | hr
    · exact hh r hr
    · exact cutF_whole cols hc _ _ (cellsF_whole _) r hr
theorem trimN_whole (l : List Cell) : ∀ n, n ≤ l.length → runW (l.take n) = .ok → runW (l.take (trimN l n)) = .ok
  | 0, _, h => h
  | n + 1, hn, h => by
    rw [trimN]
    split
    · rename_i hb
      have hg : l.getD n blankC = l[n] := by simp [List.getD, show n < l.length by omega]
      rw [hg] at hb
      have hw : l[n].wd = 1 := by
        simp only [isBlank, Bool.and_eq_true] at hb
        simpa using hb.2.1
      refine trimN_whole l n (by omega) ?_
      rw [runW_succ l n (by omega)] at h
      revert h
      cases runW (l.take n) <;> simp [stepW, hw]
    · exact h
theorem trimF_whole (l : List Cell) (h : runW l = .ok) : runW (trimF l) = .ok := trimN_whole l l.length (Nat.le_refl _) (by rw [List.take_length]; exact h)
theorem trimN_le (l : List Cell) : ∀ n, trimN l n ≤ n
  | 0 => Nat.le_refl _
  | n + 1 => by
    rw [trimN]
    split
    · exact Nat.le_succ_of_le (trimN_le l n)
    · exact Nat.le_refl _

/-! ### The cursor stands on the screen -/
theorem cutRun_col (cols : Nat) (hc : 0 < cols) (cu : Int) (cells : List Cell) : ∀ k, k ≤ cells.length → (cutRun cols cu cells k).col < cols
  | 0, _ => by simp [cutRun]; exact hc
  | k + 1, hk => by
    have ih := cutRun_col cols hc cu cells k (by omega)
    obtain ⟨h1, h2⟩ := cutRun_wide cols hc cu cells k (by omega)
    have h4 := (cutPre_wide cols hc _ _ cells[k] h1 h2).2
    rw [cutRun_succ _ _ _ _ (by omega)]
    simp only [cutStep]
    split
    · exact h4
    · exact ih
theorem cutF_col (cells : List Cell) (cols : Nat) (hc : 0 < cols) (cu : Int) : (cutF cells cols cu).2.2 < cols := by
  have h1 := cutRun_col cols hc cu cells cells.length (Nat.le_refl _)
  have h2 := (cutRun_wide cols hc cu cells cells.length (Nat.le_refl _)).2
  simp only [cutF]
  split
  · split
    · exact hc
    · simp only; omega
  · exact h1
theorem acrossF_col (cells : List Cell) (cols at_ : Nat) (hc : 8 ≤ cols) (ha : at_ ≤ cells.length) : (acrossF cells cols at_).2 < cols := by
  by_cases hm : cells.length + (if at_ = cells.length then 1 else 0) ≤ cols
  · rw [acrossF, if_pos hm]
    simp only
    split at hm <;> omega
  · rw [acrossF, if_neg hm]
    simp only [fromF]
    have h4 : 0 < cols / 2 := by omega
    have h5 : 2 * (cols / 2) ≤ cols := by omega
    generalize cols / 2 = h at *
    have h6 := Nat.div_add_mod at_ h
    have h7 := Nat.mod_lt at_ h4
    rcases Nat.eq_zero_or_pos (at_ / h) with h8 | h8
    · rw [h8] at h6
      rw [h8]
      simp at h6 ⊢
      omega
    · have h9 : (at_ / h - 1) * h + h = h * (at_ / h) := by
        rw [Nat.mul_comm h, ← Nat.succ_mul]; congr 1; omega
      omega
theorem rowsF_col (prompt line : List Int) (point cols : Nat) (across : Bool) (hc : 8 ≤ cols) : (rowsF prompt line point cols across).2.2 < cols := by
  unfold rowsF
  cases across with
  | true => exact acrossF_col _ _ _ hc (curF_le _ _)
  | false => exact cutF_col _ _ (by omega) _
theorem fits_law (prompt line : List Int) (point rows cols : Nat) (across : Bool) (hr : 2 ≤ rows) (hc : 8 ≤ cols) :
    1 ≤ (renderF prompt line point rows cols across).1.length ∧ (renderF prompt line point rows cols across).1.length ≤ rows ∧
    (renderF prompt line point rows cols across).2.1 < (renderF prompt line point rows cols across).1.length ∧
    (renderF prompt line point rows cols across).2.2.1 < cols ∧
    ∀ r ∈ (renderF prompt line point rows cols across).1, r.length ≤ cols ∧ ∀ k, k < r.length → loneB r k = false := by
  have h1 := rowsF_row prompt line point cols across
  have h2 := rowsF_col prompt line point cols across hc
  have h3 := rowsF_wide prompt line point cols across (by omega)
  have h4 := rowsF_whole prompt line point cols across (by omega)
  unfold renderF frameF aboveF
  generalize rowsF prompt line point cols across = R at *
  simp only [List.length_map, List.length_drop, List.length_take]
  refine ⟨by omega, by omega, by omega, h2, ?_⟩
  intro r hr
  obtain ⟨q, hq, rfl⟩ := List.mem_map.1 hr
  have hq := List.mem_of_mem_take (List.mem_of_mem_drop hq)
  refine ⟨?_, fun k hk => whole_lone (trimF_whole q (h4 q hq)) k hk⟩
  have := h3 q hq
  simp [trimF]
  omega
end Go.Proofs.YthpfhlhoekgpjaaDoor
