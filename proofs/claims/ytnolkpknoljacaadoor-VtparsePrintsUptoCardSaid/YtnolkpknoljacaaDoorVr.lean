/- What came in, read: numbers, actions. -/
import Derived.Test.YtnolkpknoljacaaDoorVi
import Derived.Test.YtnolkpknoljacaaDoorRows
import Derived.ChangeSame
import Derived.ChangeVars
import Derived.JoinedOf
import Derived.RowKitTokens
import Derived.LaidLaws
import Derived.LaidHandle
import Derived.LaidMore
import Derived.Stop.Joined
import Derived.Lib.SmallJoins
import Derived.Carry
import Derived.Deep.Slices
import Derived.DataReads
set_option linter.unusedVariables false
set_option linter.unusedSimpArgs false
set_option maxRecDepth 100000
namespace Go.Proofs.YtnolkpknoljacaaDoor
open Go.ChangeShapes Go.WideShapes Go.RowKit Go.Joins Go.ChangeAt Go.Deep

section
variable {H : Type} {enc : TypeId × Value → H} {W : World}
/-- A slice of numbers that came in. -/
theorem ints_in {n : Nat} {c : Value} {y : DataW H × List MemPlace} (h : DataW.trod enc Tryd.prog W 0 (fun _ => true) true n 27 [c] = some y) : ∃ l, RJ W c l := by
  rcases open_ints Tryd.underlying27 Tryd.underlying3 (by kernel_rfl) h with ⟨hcs, hx⟩ | ⟨a, len, cap, zs, hcs, _, hl, hm, hz, hx, hcell, hwz⟩
  · simp only [List.cons.injEq, and_true] at hcs
    subst hcs
    exact ⟨[], none, 0, rfl, Nat.le_refl _, Nat.zero_le _, .inl rfl⟩
  · simp only [List.cons.injEq, and_true] at hcs
    subst hcs
    simp only [if_true] at hz
    refine ⟨zs.take len, some a, cap, by rw [List.length_take, hz, Nat.min_eq_left hl], by rw [List.length_take]; omega, hm, ?_⟩
    by_cases h0 : len = 0
    · left; rw [h0]; rfl
    · right
      obtain ⟨b, off, rfl, hc⟩ := ints_at hcell (by omega)
      refine ⟨b, off, rfl, ?_⟩
      intro j u hu
      simp only [ints, List.getElem?_map, List.getElem?_take] at hu
      by_cases hj : j < len
      · rw [if_pos hj] at hu
        have hjz : j < zs.length := by omega
        rw [hc j hjz]
        simp only [List.getElem?_eq_getElem hjz, Option.map_some, Option.some.injEq] at hu
        rw [← hu]
        simp [List.getD, hjz]
      · rw [if_neg hj] at hu
        simp at hu
/-- One action that is read. -/
theorem act_in {n : Nat} {cs : List Value} {y : DataW H × List MemPlace} (h : DataW.trod enc Tryd.prog W 0 (fun _ => true) true n 29 cs = some y) : ∃ (a : AV) (pl : List Int), cs = a.cells ∧ RJ W a.pv pl := by
  obtain ⟨xs, m, _, hx, hl, hxl, hall⟩ := DataW.trod_struct Tryd.underlying29 h
  have hC : Tryd.prog.cellsOf 29 = 7 := by kernel_rfl
  rw [hC] at hl
  match cs, hl with
  | [v0, v1, v2, v3, v4, v5, v6], _ =>
  have h7 : xs.length = 7 := hxl
  match xs, h7 with
  | [y0, y1, y2, y3, y4, y5, y6], _ =>
  have k9 : Tryd.prog.cellsOf 9 = 1 := by kernel_rfl
  have k3 : Tryd.prog.cellsOf 3 = 1 := by kernel_rfl
  have k5 : Tryd.prog.cellsOf 5 = 1 := by kernel_rfl
  have k21 : Tryd.prog.cellsOf 21 = 1 := by kernel_rfl
  have k27 : Tryd.prog.cellsOf 27 = 1 := by kernel_rfl
  have a0 := hall 0 _ rfl
  have a1 := hall 1 _ rfl
  have a2 := hall 2 _ rfl
  have a3 := hall 3 _ rfl
  have a4 := hall 4 _ rfl
  have a5 := hall 5 _ rfl
  have a6 := hall 6 _ rfl
  simp [k9, k3, k5, k21, k27] at a0 a1 a2 a3 a4 a5 a6
  obtain ⟨z0, e0, _⟩ := DataW.trod_int Tryd.underlying3 a0
  obtain ⟨z1, e1, _⟩ := DataW.trod_int Tryd.underlying21 a1
  obtain ⟨z2, e2, _⟩ := DataW.trod_int Tryd.underlying5 a2
  obtain ⟨z3, e3, _⟩ := DataW.trod_int Tryd.underlying5 a3
  obtain ⟨s5, e5, _⟩ := DataW.trod_string Tryd.underlying9 a5
  obtain ⟨s6, e6, _⟩ := DataW.trod_string Tryd.underlying9 a6
  simp only [List.cons.injEq, and_true] at e0 e1 e2 e3 e5 e6
  subst e0 e1 e2 e3 e5 e6
  obtain ⟨pl, hpl⟩ := ints_in a4
  exact ⟨⟨z0, z1, z2, z3, v4, s5, s6⟩, pl, rfl, hpl⟩
/-- Actions that are read. -/
theorem acts_in {n : Nat} {c : Value} {y : DataW H × List MemPlace} (h : DataW.trod enc Tryd.prog W 0 (fun _ => true) true n 23 [c] = some y) : ∃ l : List (AV × List Int), RAct W c l := by
  rcases open_slice Tryd.underlying23 h with ⟨hcs, hx⟩ | ⟨a, len, cap, m, n', D, Pl, hcs, _, hl, hm, hmm, hx, hel⟩
  · simp only [List.cons.injEq, and_true] at hcs
    subst hcs
    exact ⟨[], ⟨none, 0, rfl, Nat.le_refl _, Nat.zero_le _, .inl rfl⟩, by simp⟩
  · simp only [List.cons.injEq, and_true] at hcs
    subst hcs
    simp only [if_true] at hmm
    have hC : Tryd.prog.cellsOf 29 = 7 := by kernel_rfl
    rw [hC] at hel
    have key : ∀ k, k ≤ len → ∃ l : List (AV × List Int), l.length = k ∧ (∀ j u, (encA (l.map (·.1)))[j]? = some u → W.cell? (a.add j) = some u) ∧ (∀ x ∈ l, RJ W x.1.pv x.2) := by
      intro k
      induction k with
      | zero => intro _; exact ⟨[], rfl, by simp [encA], by simp⟩
      | succ k ih =>
        intro hk
        obtain ⟨l, h1, h2, h3⟩ := ih (by omega)
        obtain ⟨cs', hc, ht⟩ := hel k (by omega)
        obtain ⟨cc, pl, rfl, hb⟩ := act_in ht
        obtain ⟨_, _, hat⟩ := World.cells?_some hc
        refine ⟨l ++ [(cc, pl)], by simp [h1], ?_, ?_⟩
        · intro j u hu
          rw [List.map_append, encA_append] at hu
          have hle : (encA (l.map (·.1))).length = k * 7 := by rw [encA_len, List.length_map, h1]
          rcases Nat.lt_or_ge j (k * 7) with hj | hj
          · rw [List.getElem?_append_left (by omega)] at hu
            exact h2 j u hu
          · rw [List.getElem?_append_right (by omega), hle] at hu
            have hj7 : j - k * 7 < 7 := by
              have := (List.getElem?_eq_some_iff.1 hu).1
              simp [encA, AV.cells] at this
              exact this
            have := hat (j - k * 7) hj7
            rw [Go.Deep.add_add] at this
            rw [show k * 7 + (j - k * 7) = j by omega] at this
            rw [this]
            simpa [encA] using hu
        · intro x hx
          rcases List.mem_append.1 hx with hx | hx
          · exact h3 x hx
          · rw [List.mem_singleton.1 hx]; exact hb
    obtain ⟨l, h1, h2, h3⟩ := key len (Nat.le_refl _)
    refine ⟨l, ⟨some a, cap, by rw [h1], by omega, hm, ?_⟩, h3⟩
    by_cases h0 : l = []
    · left; rw [h0]; rfl
    · right
      have hl0 : 0 < (encA (l.map (·.1))).length := by rw [encA_len, List.length_map]; have := List.length_pos_iff.2 h0; omega
      obtain ⟨b, off, spot⟩ := a
      have hc0 := h2 0 _ (List.getElem?_eq_getElem hl0)
      have hspot : spot = none := by simpa [Addr.add] using World.cell?_spot hc0
      subst hspot
      exact ⟨b, off, rfl, fun j u hu => by have := h2 j u hu; rwa [add_plain] at this⟩
theorem array4 {α : Type} {cs : Array α} (h : cs.size = 4) : ∃ c0 c1 c2 c3, cs = #[c0, c1, c2, c3] := by
  obtain ⟨l⟩ := cs
  match l, h with
  | [c0, c1, c2, c3], _ => exact ⟨c0, c1, c2, c3, rfl⟩
/-- What VtparseAsks is asked. -/
theorem ask_in {base : Nat} {v : Value} {d : DataW H} {p : List MemPlace} (hv : Value.okWide Tryd.prog W .any base 41 v) (h : DataW.Trod enc Tryd.prog W 0 (fun _ => true) true 41 v d p) :
    ∃ (av bv : Value) (xs ys : List (AV × List Int)) (qi qo : Int), v = .agg #[av, bv, .int .i64 qi, .int .i64 qo] ∧ RAct W av xs ∧ RAct W bv ys := by
  obtain ⟨cs, rfl, hsz⟩ := okWide_struct Tryd.underlying41 hv
  obtain ⟨c0, c1, c2, c3, rfl⟩ := array4 (hsz.trans (by kernel_rfl))
  obtain ⟨fuel, hf⟩ := h
  obtain ⟨xs, n, _, hx, hl, hxl, hall⟩ := DataW.trod_struct Tryd.underlying41 hf
  have h4 : xs.length = 4 := hxl
  match xs, h4 with
  | [y0, y1, y2, y3], _ =>
  have k23 : Tryd.prog.cellsOf 23 = 1 := by kernel_rfl
  have k3 : Tryd.prog.cellsOf 3 = 1 := by kernel_rfl
  have a0 := hall 0 _ rfl
  have a1 := hall 1 _ rfl
  have a2 := hall 2 _ rfl
  have a3 := hall 3 _ rfl
  simp [Value.cells, k23, k3] at a0 a1 a2 a3
  obtain ⟨z2, e2, _⟩ := DataW.trod_int Tryd.underlying3 a2
  obtain ⟨z3, e3, _⟩ := DataW.trod_int Tryd.underlying3 a3
  simp only [List.cons.injEq, and_true] at e2 e3
  subst e2 e3
  obtain ⟨l0, r0⟩ := acts_in a0
  obtain ⟨l1, r1⟩ := acts_in a1
  exact ⟨c0, c1, l0, l1, z2, z3, rfl, r0, r1⟩
end
end Go.Proofs.YtnolkpknoljacaaDoor
