/- Equality of lists of numbers and of actions; vtparse.Same. -/
import Derived.Test.YtnolkpknoljacaaDoorVg
set_option linter.unusedVariables false
set_option linter.unusedSimpArgs false
namespace Go.Proofs.YtnolkpknoljacaaDoor
open Go.RowKit

def eqAll {α : Type} (f : α → α → Bool) : List α → List α → Bool
  | [], [] => true
  | a :: l, b :: m => f a b && eqAll f l m
  | _, _ => false
theorem eqAll_len {α : Type} (f : α → α → Bool) : ∀ l m : List α, l.length ≠ m.length → eqAll f l m = false
  | [], [], h => absurd rfl h
  | [], _ :: _, _ => rfl
  | _ :: _, [], _ => rfl
  | a :: l, b :: m, h => by rw [eqAll, eqAll_len f l m (by simpa using h), Bool.and_false]
theorem eqAll_drop {α : Type} (f : α → α → Bool) (l m : List α) (k : Nat) (h1 : k < l.length) (h2 : k < m.length) : eqAll f (l.drop k) (m.drop k) = (f l[k] m[k] && eqAll f (l.drop (k + 1)) (m.drop (k + 1))) := by
  rw [List.drop_eq_getElem_cons h1, List.drop_eq_getElem_cons h2, eqAll]
theorem eqAll_iff {α : Type} (f : α → α → Bool) (hf : ∀ a b, f a b = true ↔ a = b) : ∀ l m : List α, eqAll f l m = true ↔ l = m
  | [], [] => by simp [eqAll]
  | [], _ :: _ => by simp [eqAll]
  | _ :: _, [] => by simp [eqAll]
  | a :: l, b :: m => by simp [eqAll, hf, eqAll_iff f hf l m]
def intEq (a b : Int) : Bool := a == b
def intsEq : List Int → List Int → Bool := eqAll intEq
set_option maxRecDepth 100000 in
set_option maxHeartbeats 2000000 in
theorem equalInts_calls (v u : Value) (xs ys : List Int) (w : World) (hv : RJ w v xs) (hu : RJ w u ys) :
    Calls Tryd.prog 32 #[v, u] w fun e w' => e = .returned (.bool (intsEq xs ys)) ∧ Below w.heap.size w w' := by
  have HV := Hd.mk hv
  have HU := Hd.mk hu
  obtain ⟨A, c, rfl, -⟩ := hv
  obtain ⟨B, d, rfl, -⟩ := hu
  by_cases hl : xs.length = ys.length
  · have HL := Hd.mk hl
    have hlb : ((xs.length : Int) != (ys.length : Int)) = false := by rw [hl]; simp
    clear hl
    go_enter Tryd.func32, Tryd.ntmps32
    go_wp2_with fail
    clear hlb
    go_loopg [13] xs.length (fun gk i wr => ∃ k : Nat, k + gk = xs.length ∧ i = .int .i64 k ∧ Hd (intsEq xs ys = intsEq (xs.drop k) (ys.drop k)) ∧ Hd (Below w.heap.size w wr))
    case atStart => exact ⟨0, by omega, rfl, ⟨rfl⟩, ⟨Below.refl _ _⟩⟩
    case round =>
      obtain ⟨k, hk, rfl, HF, HB⟩ := hrel
      by_cases hlt : k < xs.length
      · have hlt2 : k < ys.length := by rw [← HL.out]; exact hlt
        have HS := Hd.mk (eqAll_drop intEq xs ys k hlt hlt2)
        obtain ⟨b1, o1, c1, hv, k1, k2, -, hc1⟩ := RJ.at_ (Rd.below HV.out HB.out) hlt
        have hm : xs.length ≤ 9223372036854775807 := Nat.le_trans k1 (by unfold maxLen at k2; omega)
        clear k1 k2
        injection hv with hv1 hv2 hv3
        subst hv1 hv3
        obtain ⟨b2, o2, c2, hv, -, -, -, hc2⟩ := RJ.at_ (Rd.below HU.out HB.out) hlt2
        injection hv with hv1 hv2 hv3
        subst hv1 hv3
        have g1 := hc1 k hlt
        have g2 := hc2 k hlt2
        clear hc1 hc2
        generalize xs[k] = x at *
        generalize ys[k] = y at *
        cases hxy : intEq x y with
        | true =>
          have ht : (x != y) = false := by simpa [intEq, bne] using hxy
          have HE := Hd.mk hxy
          clear hxy
          go_upto_region 6 with (fail)
          go_quiet (fail)
          go_wp2_with fail
          go_roundg (gk - 1)
          case measure => omega
          case rel => exact ⟨k + 1, by omega, by go_num, ⟨by rw [HF.out, intsEq, HS.out, HE.out, Bool.true_and]⟩, ⟨below_next HB.out (quiet_below _)⟩⟩
        | false =>
          have ht : (x != y) = true := by simpa [intEq, bne] using hxy
          have HE := Hd.mk hxy
          clear hxy
          go_upto_region 6 with (fail)
          go_quiet (fail)
          go_wp2_with fail
          go_ret
          exact ⟨by rw [HF.out, intsEq, HS.out, HE.out, Bool.false_and]; rfl, below_next HB.out (quiet_below _)⟩
      · have h1 : xs.drop k = [] := List.drop_of_length_le (by omega)
        have h2 : ys.drop k = [] := List.drop_of_length_le (by have := HL.out; omega)
        have HE := Hd.mk (show intsEq (xs.drop k) (ys.drop k) = true by rw [h1, h2]; rfl)
        clear h1 h2
        go_wp2_with fail
        go_ret
        exact ⟨by rw [HF.out, HE.out]; rfl, HB.out⟩
  · have hlb : ((xs.length : Int) != (ys.length : Int)) = true := by simp; omega
    have HE := Hd.mk (eqAll_len intEq xs ys hl)
    clear hl
    go_enter Tryd.func32, Tryd.ntmps32
    go_wp2_with fail
    go_ret
    exact ⟨by rw [intsEq, HE.out]; rfl, Below.refl _ _⟩

end Go.Proofs.YtnolkpknoljacaaDoor
