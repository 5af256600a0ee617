/- The decoder's bytes: of the call's own, at an offset. -/
import Derived.Test.YtnolkpknoljacaaDoorWb
import Derived.Test.YtnolkpknoljacaaDoorVj
set_option linter.unusedVariables false
set_option linter.unusedSimpArgs false
namespace Go.Proofs.YtnolkpknoljacaaDoor
open Go.RowKit Go.Lib

def u8l (l : List Int) : List Value := l.map fun n => .int .u8 n
/-- A block of bytes of the call's own. -/
def Byt (B : Nat) (w : World) (k : Nat) : Prop := B ≤ k ∧ ∃ cs, w.heap[k]? = some (.cells cs 5 (0, 0))
structure OBy (B : Nat) (v : Value) (bs : List Int) (w : World) : Prop where
  form : (v = .slice none 0 0 ∧ bs = []) ∨ ∃ g off cap cs, v = .slice (some ⟨g, off, none⟩) bs.length cap ∧ B ≤ g ∧ w.heap[g]? = some (.cells cs 5 (0, 0)) ∧ bs.length ≤ cap ∧ off + cap ≤ cs.size ∧ ∀ j u, (u8l bs)[j]? = some u → cs[off + j]? = some u
theorem OBy.nil (B : Nat) (w : World) : OBy B (.slice none 0 0) [] w := ⟨.inl ⟨rfl, rfl⟩⟩
theorem OBy.touch {S : Nat → Prop} {B : Nat} {v : Value} {bs : List Int} {w w' : World} (h : OBy B v bs w) (hT : Touch S w w') (hn : ∀ k, S k → ∀ cs, w.heap[k]? ≠ some (.cells cs 5 (0, 0))) : OBy B v bs w' := by
  rcases h.form with h | ⟨g, off, cap, cs, h1, h2, h3, h4⟩
  · exact ⟨.inl h⟩
  · exact ⟨.inr ⟨g, off, cap, cs, h1, h2, box_touch h3 hT (fun hs => hn g hs cs h3), h4⟩⟩
theorem OBy.slice {B : Nat} {v : Value} {bs : List Int} {w : World} (h : OBy B v bs w) : ∃ A c, v = .slice A bs.length c := by
  rcases h.form with ⟨rfl, rfl⟩ | ⟨g, off, cap, cs, rfl, _⟩
  · exact ⟨_, _, rfl⟩
  · exact ⟨_, _, rfl⟩
theorem OBy.at_ {B : Nat} {v : Value} {bs : List Int} {w : World} (h : OBy B v bs w) (hne : bs ≠ []) :
    ∃ g off cap, v = .slice (some ⟨g, off, none⟩) bs.length cap ∧ g < w.heap.size ∧ ∀ j u, (u8l bs)[j]? = some u → w.cell? ⟨g, off + j, none⟩ = some u := by
  rcases h.form with ⟨_, rfl⟩ | ⟨g, off, cap, cs, h1, h2, h3, h4, h5, h6⟩
  · exact absurd rfl hne
  · exact ⟨g, off, cap, h1, box_lt h3, fun j u hj => by rw [blk_cell h3]; exact h6 j u hj⟩
/-- All is cut off. -/
theorem OBy.cut {B : Nat} {A : Option Addr} {n c : Nat} {bs : List Int} {w : World} (h : OBy B (.slice A n c) bs w) : OBy B (.slice (if c = n then A else A.map (·.add (n * 1))) (n - n) (c - n)) [] w := by
  rcases h.form with ⟨hh, rfl⟩ | ⟨g, off, cap, cs, h1, h2, h3, h4, h5, h6⟩
  · injection hh with h1 h2 h3
    subst h1 h2 h3
    exact ⟨.inl ⟨rfl, rfl⟩⟩
  · injection h1 with h7 h8 h9
    subst h7 h8 h9
    by_cases hc : c = bs.length
    · rw [if_pos hc]
      exact ⟨.inr ⟨g, off, c - bs.length, cs, by simp, h2, h3, by simp, by omega, by simp [u8l]⟩⟩
    · rw [if_neg hc]
      exact ⟨.inr ⟨g, off + bs.length, c - bs.length, cs, by simp [add_plain], h2, h3, by simp, by omega, by simp [u8l]⟩⟩
theorem PF.touch {w0 w w' : World} {B pb db : Nat} {st many : Int} {a : AV} {pl : List Int} {acts : List AV} {vo bv : Value} (h : PF w0 B pb db st a pl many acts vo bv w) (hT : Touch (Byt B w) w w') : PF w0 B pb db st a pl many acts vo bv w' :=
  ⟨box_touch h.box hT (fun ⟨_, cs, e⟩ => ne_type h.box e (by decide) rfl), box_touch h.dec hT (fun ⟨_, cs, e⟩ => ne_type h.dec e (by decide) rfl),
    Touch.own h.par hT (fun k hk ⟨_, cs, e⟩ => own_not h.par e (by decide) hk.symm), Touch.own h.out hT (fun k hk ⟨_, cs, e⟩ => own_not h.out e (by decide) hk.symm),
    h.bel.trans (hT.below (B := B) (fun k hk ⟨h1, _⟩ => by omega) h.sz), h.gp, h.gd, Nat.le_trans h.sz hT.size⟩
theorem oby_app {o : Oper} {ops : Array Oper} {rest : List Oper} {a : Act} {Q : Exit → Act → World → Prop} {w : World} (hg : o.guard = none) (s x : Operand)
    (ho : o.op = .call { callee := .builtin .append, args := #[s, x], argTypes := #[25, 25] }) (B : Nat) (v : Value) (bs : List Int) (b : Int) (q c : Nat) (hs : a.eval s = v) (hx : a.eval x = .slice (some ⟨q, 0, none⟩) 1 c)
    (hq : w.cell? ⟨q, 0, none⟩ = some (.int .u8 b)) (H : OBy B v bs w) (hB : B ≤ w.heap.size) (hn : bs.length ≤ 1000)
    (h : ∀ v' w', OBy B v' (bs ++ [b]) w' → Touch (Byt B w) w w' → wpList Tryd.prog ops Q rest (a.put o.dst v') w') : wpList Tryd.prog ops Q (o :: rest) a w := by
  obtain ⟨i0, hi, hzz⟩ := Option.map_eq_some_iff.1 Tryd.info5
  simp only [Prod.mk.injEq] at hzz
  obtain ⟨hz0, hz1, hz2⟩ := hzz
  have hnews : ∀ j u, ([Value.int .u8 b] : List Value)[j]? = some u → w.cell? ((⟨q, 0, none⟩ : Addr).add j) = some u := fun j u hj => by
    match j, hj with
    | 0, hj => simp at hj; subst hj; simpa [add_plain] using hq
  have h1c : ∀ u ∈ ([Value.int .u8 b] : List Value), u.oneCell' = true := fun u hu => by simp at hu; subst hu; rfl
  have hgrown : ∀ v' w', w'.ownsRow w.heap.size 5 1 v' (bs.length + 1) (u8l bs ++ [.int .u8 b]) → w.grownBy w' none → OBy B v' (bs ++ [b]) w' ∧ Touch (Byt B w) w w' := fun v' w' hown hgr => by
    refine ⟨?_, (Touch.of_grown hgr).mono (fun k hk e => by cases e)⟩
    rcases hown.2 with ⟨_, e⟩ | ⟨g, cap, cur, e1, e2, e3, e4, e5, e6, e7⟩
    · omega
    · refine ⟨.inr ⟨g, 0, cap, cur, by simpa using e1, by omega, e3, by simpa using e4, by omega, fun j u hj => ?_⟩⟩
      have hj' : (u8l bs ++ [Value.int .u8 b])[j]? = some u := by simpa [u8l] using hj
      rw [← e7] at hj'
      rw [Nat.zero_add, ← Array.getElem?_toList]
      rw [List.getElem?_take] at hj'
      split at hj'
      · exact hj'
      · cases hj'
  rcases H.form with ⟨rfl, rfl⟩ | ⟨g, off, cap, cs, rfl, h2, h3, h4, h5, h6⟩
  · refine wpList_append_grows w hg s x 25 ho 5 i0 _ 1 1 Tryd.underlying25 hi hz0 hz1 hz2 rfl (by decide) none 0 0 [] hs (fun _ => ⟨rfl, rfl⟩) rfl (fun _ e => by cases e) ⟨q, 0, none⟩ 1 c [.int .u8 b] hx rfl hnews h1c (by omega) (by simp [maxLen]) (by omega) ?_
    intro v' w' e1 e2
    obtain ⟨e3, e4⟩ := hgrown v' w' (by simpa [u8l] using e1) e2
    exact h v' w' e3 e4
  · refine wpList_append_arg w hg s x 25 ho 5 i0 _ 1 1 Tryd.underlying25 hi hz0 hz1 hz2 rfl (by decide) g off bs.length cap (u8l bs) hs (by simp [u8l]) (fun j u hj => by rw [blk_cell h3]; exact h6 j u hj) ⟨q, 0, none⟩ 1 c [.int .u8 b] hx rfl hnews h1c
      (fun hr j hj => by
        simp only [List.length_cons, List.length_nil] at hj
        obtain rfl : j = 0 := by omega
        have hlt : off + bs.length < cs.size := by omega
        exact ⟨by rw [blk_cell h3]; simp [hlt], blk_froz h3 _⟩) (by simp only [maxLen]; omega) (by omega) ?_ ?_
    · intro hr
      have hT := (Touch.refl (fun k => k = g) w).setCell ⟨g, off + bs.length, none⟩ (.int .u8 b) rfl
      refine h _ _ ?_ (Touch.mono (by simpa [World.setCells] using hT) (fun k hk e => by subst e; exact ⟨h2, cs, h3⟩))
      refine ⟨.inr ⟨g, off, cap, cs.setIfInBounds (off + bs.length) (.int .u8 b), by simp, h2, ?_, by simp; omega, by simpa using h5, ?_⟩⟩
      · simpa [World.setCells] using box_store (j := off + bs.length) (x := .int .u8 b) h3
      · intro j u hj
        have hj' : (u8l bs ++ [Value.int .u8 b])[j]? = some u := by simpa [u8l] using hj
        by_cases hlt : j < bs.length
        · rw [List.getElem?_append_left (by simpa [u8l] using hlt)] at hj'
          rw [Array.getElem?_setIfInBounds_ne (by omega)]
          exact h6 j u hj'
        · rw [List.getElem?_append_right (by simp [u8l]; omega)] at hj'
          have hj2 : j = bs.length := by
            by_cases h9 : j - (u8l bs).length = 0
            · simp [u8l] at h9; omega
            · rw [List.getElem?_eq_none (by simp; omega)] at hj'; cases hj'
          subst hj2
          simp [u8l] at hj'
          subst hj'
          rw [Array.getElem?_setIfInBounds_self_of_lt (by omega)]
    · intro hr v' w' e1 e2
      obtain ⟨e3, e4⟩ := hgrown v' w' e1 e2
      exact h v' w' e3 e4
end Go.Proofs.YtnolkpknoljacaaDoor
