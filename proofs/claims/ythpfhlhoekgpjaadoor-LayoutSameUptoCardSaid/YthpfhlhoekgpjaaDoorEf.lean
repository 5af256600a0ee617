/- slices.EqualFunc over rows of cells. -/
import Derived.Test.YthpfhlhoekgpjaaDoorBa
set_option linter.unusedVariables false
set_option linter.unusedSimpArgs false
namespace Go.Proofs.YthpfhlhoekgpjaaDoor
open Go.RowKit

def rowsEqB : List (List Cell) → List (List Cell) → Bool := eqAll cellsEqB

set_option maxRecDepth 100000 in
set_option maxHeartbeats 4000000 in
theorem equalRows_calls (v u : Value) (xs ys : List (List Cell)) (w : World) (hv : RR w v xs) (hu : RR w u ys) :
    Calls Tryd.prog 23 #[v, u, .func (.func 15) #[] #[]] w fun e w' => e = .returned (.bool (rowsEqB xs ys)) ∧ Below w.heap.size w w' := by
  have HV := Hd.mk hv
  have HU := Hd.mk hu
  obtain ⟨A, c, rfl, hn1, hn2⟩ := hv.slice
  obtain ⟨B, d, rfl, -, -⟩ := hu.slice
  clear hv hu
  by_cases hl : xs.length = ys.length
  · have HL := Hd.mk hl
    have hlb : ((xs.length : Int) != (ys.length : Int)) = false := by rw [hl]; simp
    clear hl
    go_enter Tryd.func23, Tryd.ntmps23
    go_wp2_with fail
    clear hlb
    go_loopg [17] xs.length (fun gk i wr => ∃ k : Nat, k + gk = xs.length ∧ i = .int .i64 k ∧ Hd (rowsEqB xs ys = rowsEqB (xs.drop k) (ys.drop k)) ∧ Hd (Below w.heap.size w wr))
    case atStart => exact ⟨0, by omega, rfl, ⟨rfl⟩, ⟨Below.refl _ _⟩⟩
    case round =>
      obtain ⟨k, hk, rfl, HF, HB⟩ := hrel
      by_cases hlt : k < xs.length
      · have hlt2 : k < ys.length := by rw [← HL.out]; exact hlt
        have HS := Hd.mk (eqAll_drop cellsEqB xs ys k hlt hlt2)
        obtain ⟨b1, o1, c1, A1, a1, hv, k1, k2, hc1, HR1⟩ := RR.at_ (HV.out.below HB.out) hlt
        have hm : xs.length ≤ 9223372036854775807 := Nat.le_trans k1 (by unfold maxLen at k2; omega)
        clear k1 k2
        injection hv with hv1 hv2 hv3
        subst hv1 hv3
        obtain ⟨b2, o2, c2, A2, a2, hv, -, -, hc2, HR2⟩ := RR.at_ (HU.out.below HB.out) hlt2
        injection hv with hv1 hv2 hv3
        subst hv1 hv3
        generalize xs[k] = x at *
        generalize ys[k] = y at *
        have HCE := Hd.mk (equalCells_calls (.slice A1 x.length a1) (.slice A2 y.length a2) x y wr HR1.out HR2.out)
        cases hxy : cellsEqB x y with
        | true =>
          have HE := Hd.mk hxy
          rw [hxy] at HCE
          clear hxy
          go_wp2_with fail
          refine HCE.out.mono ?_
          rintro e w3 ⟨rfl, hb3⟩
          have HB3 := Hd.mk (below_next HB.out hb3)
          clear hb3 hc1 hc2
          go_wp2_with fail
          go_roundg (gk - 1)
          case measure => omega
          case rel => exact ⟨k + 1, by omega, by go_num, ⟨by rw [HF.out, rowsEqB, HS.out, HE.out, Bool.true_and]⟩, HB3⟩
        | false =>
          have HE := Hd.mk hxy
          rw [hxy] at HCE
          clear hxy
          go_wp2_with fail
          refine HCE.out.mono ?_
          rintro e w3 ⟨rfl, hb3⟩
          have HB3 := Hd.mk (below_next HB.out hb3)
          clear hb3 hc1 hc2
          go_wp2_with fail
          go_ret
          exact ⟨by rw [HF.out, rowsEqB, HS.out, HE.out, Bool.false_and]; rfl, HB3.out⟩
      · have h1 : xs.drop k = [] := List.drop_of_length_le (by omega)
        have h2 : ys.drop k = [] := List.drop_of_length_le (by have := HL.out; omega)
        have HE := Hd.mk (show rowsEqB (xs.drop k) (ys.drop k) = true by rw [h1, h2]; rfl)
        clear h1 h2
        go_wp2_with fail
        go_ret
        exact ⟨by rw [HF.out, HE.out]; rfl, HB.out⟩
  · have hlb : ((xs.length : Int) != (ys.length : Int)) = true := by simp; omega
    have HE := Hd.mk (eqAll_len cellsEqB xs ys hl)
    clear hl
    go_enter Tryd.func23, Tryd.ntmps23
    go_wp2_with fail
    go_ret
    exact ⟨by rw [rowsEqB, HE.out]; rfl, Below.refl _ _⟩
end Go.Proofs.YthpfhlhoekgpjaaDoor
