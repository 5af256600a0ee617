/- slices.Equal at runes, texts and cells. -/
import Derived.BigQuiet
import Derived.Test.YthpfhlhoekgpjaaDoorS
set_option linter.unusedVariables false
set_option linter.unusedSimpArgs false
namespace Go.Proofs.YthpfhlhoekgpjaaDoor
open Go.RowKit

def eqAll {α : Type} (f : α → α → Bool) : List α → List α → Bool
  | [], [] => true
  | a :: l, b :: m => f a b && eqAll f l m
  | _, _ => false
theorem eqAll_len {α : Type} (f : α → α → Bool) : ∀ l m : List α, l.length ≠ m.length → eqAll f l m = false
  | [], [], h => absurd rfl h
  | [], _ :: _, _ => rfl
  | _ :: _, [], _ => rfl
  | a :: l, b :: m, h => by rw [eqAll, eqAll_len f l m (by simpa using h), Bool.and_false]
theorem eqAll_drop {α : Type} (f : α → α → Bool) (l m : List α) (k : Nat) (h1 : k < l.length) (h2 : k < m.length) : eqAll f (l.drop k) (m.drop k) = (f l[k] m[k] && eqAll f (l.drop (k + 1)) (m.drop (k + 1))) := by
  rw [List.drop_eq_getElem_cons h1, List.drop_eq_getElem_cons h2, eqAll]
theorem eqAll_iff {α : Type} (f : α → α → Bool) (hf : ∀ a b, f a b = true ↔ a = b) : ∀ l m : List α, eqAll f l m = true ↔ l = m
  | [], [] => by simp [eqAll]
  | [], _ :: _ => by simp [eqAll]
  | _ :: _, [] => by simp [eqAll]
  | a :: l, b :: m => by simp [eqAll, hf, eqAll_iff f hf l m]
theorem quiet_below {w : World} (n : Nat) : Below w.heap.size w (w.drewN n) := ⟨rfl, rfl, rfl, Nat.le_refl _, fun _ _ => rfl⟩

/-! ### Runes -/
def runeEq (a b : Int) : Bool := a == b
def runesEq : List Int → List Int → Bool := eqAll runeEq
set_option maxRecDepth 100000 in
set_option maxHeartbeats 2000000 in
theorem equalRunes_calls (v u : Value) (xs ys : List Int) (w : World) (hv : RI w v xs) (hu : RI w u ys) :
    Calls Tryd.prog 22 #[v, u] w fun e w' => e = .returned (.bool (runesEq xs ys)) ∧ Below w.heap.size w w' := by
  have HV := Hd.mk hv
  have HU := Hd.mk hu
  obtain ⟨A, c, rfl, -⟩ := hv
  obtain ⟨B, d, rfl, -⟩ := hu
  by_cases hl : xs.length = ys.length
  · have HL := Hd.mk hl
    have hlb : ((xs.length : Int) != (ys.length : Int)) = false := by rw [hl]; simp
    clear hl
    go_enter Tryd.func22, Tryd.ntmps22
    go_wp2_with fail
    clear hlb
    go_loopg [13] xs.length (fun gk i wr => ∃ k : Nat, k + gk = xs.length ∧ i = .int .i64 k ∧ Hd (runesEq xs ys = runesEq (xs.drop k) (ys.drop k)) ∧ Hd (Below w.heap.size w wr))
    case atStart => exact ⟨0, by omega, rfl, ⟨rfl⟩, ⟨Below.refl _ _⟩⟩
    case round =>
      obtain ⟨k, hk, rfl, HF, HB⟩ := hrel
      by_cases hlt : k < xs.length
      · have hlt2 : k < ys.length := by rw [← HL.out]; exact hlt
        have HS := Hd.mk (eqAll_drop runeEq xs ys k hlt hlt2)
        obtain ⟨b1, o1, c1, hv, k1, k2, -, hc1⟩ := RI.at_ (Rd.below HV.out HB.out) hlt
        have hm : xs.length ≤ 9223372036854775807 := Nat.le_trans k1 (by unfold maxLen at k2; omega)
        clear k1 k2
        injection hv with hv1 hv2 hv3
        subst hv1 hv3
        obtain ⟨b2, o2, c2, hv, -, -, -, hc2⟩ := RI.at_ (Rd.below HU.out HB.out) hlt2
        injection hv with hv1 hv2 hv3
        subst hv1 hv3
        have g1 := hc1 k hlt
        have g2 := hc2 k hlt2
        clear hc1 hc2
        generalize xs[k] = x at *
        generalize ys[k] = y at *
        cases hxy : runeEq x y with
        | true =>
          have ht : (x != y) = false := by simpa [runeEq, bne] using hxy
          have HE := Hd.mk hxy
          clear hxy
          go_upto_region 6 with (fail)
          go_quiet (fail)
          go_wp2_with fail
          go_roundg (gk - 1)
          case measure => omega
          case rel => exact ⟨k + 1, by omega, by go_num, ⟨by rw [HF.out, runesEq, HS.out, HE.out, Bool.true_and]⟩, ⟨below_next HB.out (quiet_below _)⟩⟩
        | false =>
          have ht : (x != y) = true := by simpa [runeEq, bne] using hxy
          have HE := Hd.mk hxy
          clear hxy
          go_upto_region 6 with (fail)
          go_quiet (fail)
          go_wp2_with fail
          go_ret
          exact ⟨by rw [HF.out, runesEq, HS.out, HE.out, Bool.false_and]; rfl, below_next HB.out (quiet_below _)⟩
      · have h1 : xs.drop k = [] := List.drop_of_length_le (by omega)
        have h2 : ys.drop k = [] := List.drop_of_length_le (by have := HL.out; omega)
        have HE := Hd.mk (show runesEq (xs.drop k) (ys.drop k) = true by rw [h1, h2]; rfl)
        clear h1 h2
        go_wp2_with fail
        go_ret
        exact ⟨by rw [HF.out, HE.out]; rfl, HB.out⟩
  · have hlb : ((xs.length : Int) != (ys.length : Int)) = true := by simp; omega
    have HE := Hd.mk (eqAll_len runeEq xs ys hl)
    clear hl
    go_enter Tryd.func22, Tryd.ntmps22
    go_wp2_with fail
    go_ret
    exact ⟨by rw [runesEq, HE.out]; rfl, Below.refl _ _⟩
/-! ### Texts -/
def textEq (a b : ByteArray) : Bool := a.toList == b.toList
def textsEq : List ByteArray → List ByteArray → Bool := eqAll textEq
theorem RS.at_ {w : World} {v : Value} {l : List ByteArray} (h : Rd w v l.length (strs l)) {k : Nat} (hk : k < l.length) :
    ∃ b o c, v = .slice (some ⟨b, o, none⟩) l.length c ∧ l.length ≤ c ∧ c ≤ maxLen ∧ b < w.heap.size ∧ ∀ j (hj : j < l.length), w.cell? ⟨b, o + j, none⟩ = some (.string l[j]) := by
  have hne : strs l ≠ [] := fun e => by have h2 : (strs l).length = l.length := by simp [strs]
                                        rw [e] at h2; simp at h2; omega
  obtain ⟨b, o, c, rfl, h1, h2, h3, hc⟩ := Rd.at_ h hne
  exact ⟨b, o, c, rfl, h1, h2, h3, fun j hj => hc j _ (by simp [strs, hj])⟩
set_option maxRecDepth 100000 in
set_option maxHeartbeats 2000000 in
theorem equalTexts_calls (v u : Value) (xs ys : List ByteArray) (w : World) (hv : Rd w v xs.length (strs xs)) (hu : Rd w u ys.length (strs ys)) :
    Calls Tryd.prog 28 #[v, u] w fun e w' => e = .returned (.bool (textsEq xs ys)) ∧ Below w.heap.size w w' := by
  have HV := Hd.mk hv
  have HU := Hd.mk hu
  obtain ⟨A, c, rfl, -⟩ := hv
  obtain ⟨B, d, rfl, -⟩ := hu
  by_cases hl : xs.length = ys.length
  · have HL := Hd.mk hl
    have hlb : ((xs.length : Int) != (ys.length : Int)) = false := by rw [hl]; simp
    clear hl
    go_enter Tryd.func28, Tryd.ntmps28
    go_wp2_with fail
    clear hlb
    go_loopg [13] xs.length (fun gk i wr => ∃ k : Nat, k + gk = xs.length ∧ i = .int .i64 k ∧ Hd (textsEq xs ys = textsEq (xs.drop k) (ys.drop k)) ∧ Hd (Below w.heap.size w wr))
    case atStart => exact ⟨0, by omega, rfl, ⟨rfl⟩, ⟨Below.refl _ _⟩⟩
    case round =>
      obtain ⟨k, hk, rfl, HF, HB⟩ := hrel
      by_cases hlt : k < xs.length
      · have hlt2 : k < ys.length := by rw [← HL.out]; exact hlt
        have HS := Hd.mk (eqAll_drop textEq xs ys k hlt hlt2)
        obtain ⟨b1, o1, c1, hv, k1, k2, -, hc1⟩ := RS.at_ (Rd.below HV.out HB.out) hlt
        have hm : xs.length ≤ 9223372036854775807 := Nat.le_trans k1 (by unfold maxLen at k2; omega)
        clear k1 k2
        injection hv with hv1 hv2 hv3
        subst hv1 hv3
        obtain ⟨b2, o2, c2, hv, -, -, -, hc2⟩ := RS.at_ (Rd.below HU.out HB.out) hlt2
        injection hv with hv1 hv2 hv3
        subst hv1 hv3
        have g1 := hc1 k hlt
        have g2 := hc2 k hlt2
        clear hc1 hc2
        generalize xs[k] = x at *
        generalize ys[k] = y at *
        cases hxy : textEq x y with
        | true =>
          have ht : (!(x.toList == y.toList)) = false := by simpa [textEq] using hxy
          have HE := Hd.mk hxy
          clear hxy
          go_upto_region 6 with (fail)
          go_quiet (fail)
          go_wp2_with fail
          go_roundg (gk - 1)
          case measure => omega
          case rel => exact ⟨k + 1, by omega, by go_num, ⟨by rw [HF.out, textsEq, HS.out, HE.out, Bool.true_and]⟩, ⟨below_next HB.out (quiet_below _)⟩⟩
        | false =>
          have ht : (!(x.toList == y.toList)) = true := by simpa [textEq] using hxy
          have HE := Hd.mk hxy
          clear hxy
          go_upto_region 6 with (fail)
          go_quiet (fail)
          go_wp2_with fail
          go_ret
          exact ⟨by rw [HF.out, textsEq, HS.out, HE.out, Bool.false_and]; rfl, below_next HB.out (quiet_below _)⟩
      · have h1 : xs.drop k = [] := List.drop_of_length_le (by omega)
        have h2 : ys.drop k = [] := List.drop_of_length_le (by have := HL.out; omega)
        have HE := Hd.mk (show textsEq (xs.drop k) (ys.drop k) = true by rw [h1, h2]; rfl)
        clear h1 h2
        go_wp2_with fail
        go_ret
        exact ⟨by rw [HF.out, HE.out]; rfl, HB.out⟩
  · have hlb : ((xs.length : Int) != (ys.length : Int)) = true := by simp; omega
    have HE := Hd.mk (eqAll_len textEq xs ys hl)
    clear hl
    go_enter Tryd.func28, Tryd.ntmps28
    go_wp2_with fail
    go_ret
    exact ⟨by rw [textsEq, HE.out]; rfl, Below.refl _ _⟩
/-! ### Cells -/
def cellEq (a b : Cell) : Bool := a.t.toList == b.t.toList && (a.wd == b.wd && (a.a == b.a))
def cellsEqB : List Cell → List Cell → Bool := eqAll cellEq
set_option maxRecDepth 100000 in
set_option maxHeartbeats 2000000 in
theorem equalCells_calls (v u : Value) (xs ys : List Cell) (w : World) (hv : RC w v xs) (hu : RC w u ys) :
    Calls Tryd.prog 15 #[v, u] w fun e w' => e = .returned (.bool (cellsEqB xs ys)) ∧ Below w.heap.size w w' := by
  have HV := Hd.mk hv
  have HU := Hd.mk hu
  obtain ⟨A, c, rfl, -⟩ := hv
  obtain ⟨B, d, rfl, -⟩ := hu
  by_cases hl : xs.length = ys.length
  · have HL := Hd.mk hl
    have hlb : ((xs.length : Int) != (ys.length : Int)) = false := by rw [hl]; simp
    clear hl
    go_enter Tryd.func15, Tryd.ntmps15
    go_wp2_with fail
    clear hlb
    go_loopg [13] xs.length (fun gk i wr => ∃ k : Nat, k + gk = xs.length ∧ i = .int .i64 k ∧ Hd (cellsEqB xs ys = cellsEqB (xs.drop k) (ys.drop k)) ∧ Hd (Below w.heap.size w wr))
    case atStart => exact ⟨0, by omega, rfl, ⟨rfl⟩, ⟨Below.refl _ _⟩⟩
    case round =>
      obtain ⟨k, hk, rfl, HF, HB⟩ := hrel
      by_cases hlt : k < xs.length
      · have hlt2 : k < ys.length := by rw [← HL.out]; exact hlt
        have HS := Hd.mk (eqAll_drop cellEq xs ys k hlt hlt2)
        obtain ⟨b1, o1, c1, hv, k1, k2, -, hc1⟩ := RC.at_ (Rd.below HV.out HB.out) hlt
        have hm : xs.length ≤ 9223372036854775807 := Nat.le_trans k1 (by unfold maxLen at k2; omega)
        clear k1 k2
        injection hv with hv1 hv2 hv3
        subst hv1 hv3
        obtain ⟨b2, o2, c2, hv, -, -, -, hc2⟩ := RC.at_ (Rd.below HU.out HB.out) hlt2
        injection hv with hv1 hv2 hv3
        subst hv1 hv3
        obtain ⟨g1, g1b, g1c⟩ := hc1 k hlt
        obtain ⟨g2, g2b, g2c⟩ := hc2 k hlt2
        clear hc1 hc2
        generalize xs[k] = x at *
        generalize ys[k] = y at *
        obtain ⟨xt, xw, xa⟩ := x
        obtain ⟨yt, yw, ya⟩ := y
        simp only at g1 g1b g1c g2 g2b g2c
        have hne := fun w : World => neq37 w xt yt xw yw xa ya
        have hgd : Tryd.prog.eqGuardType Tryd.prog.depth 37 = false := by kernel_rfl
        cases hxy : cellEq ⟨xt, xw, xa⟩ ⟨yt, yw, ya⟩ with
        | true =>
          have ht : (xt.toList == yt.toList && (xw == yw && (xa == ya))) = true := hxy
          have HE := Hd.mk hxy
          clear hxy
          rw [ht] at hne
          go_upto_region 6 with (fail)
          go_quiet (fail)
          go_wp2_with fail
          go_roundg (gk - 1)
          case measure => omega
          case rel => exact ⟨k + 1, by omega, by go_num, ⟨by rw [HF.out, cellsEqB, HS.out, HE.out, Bool.true_and]⟩, ⟨below_next HB.out (quiet_below _)⟩⟩
        | false =>
          have ht : (xt.toList == yt.toList && (xw == yw && (xa == ya))) = false := hxy
          have HE := Hd.mk hxy
          clear hxy
          rw [ht] at hne
          go_upto_region 6 with (fail)
          go_quiet (fail)
          go_wp2_with fail
          go_ret
          exact ⟨by rw [HF.out, cellsEqB, HS.out, HE.out, Bool.false_and]; rfl, below_next HB.out (quiet_below _)⟩
      · have h1 : xs.drop k = [] := List.drop_of_length_le (by omega)
        have h2 : ys.drop k = [] := List.drop_of_length_le (by have := HL.out; omega)
        have HE := Hd.mk (show cellsEqB (xs.drop k) (ys.drop k) = true by rw [h1, h2]; rfl)
        clear h1 h2
        go_wp2_with fail
        go_ret
        exact ⟨by rw [HF.out, HE.out]; rfl, HB.out⟩
  · have hlb : ((xs.length : Int) != (ys.length : Int)) = true := by simp; omega
    have HE := Hd.mk (eqAll_len cellEq xs ys hl)
    clear hl
    go_enter Tryd.func15, Tryd.ntmps15
    go_wp2_with fail
    go_ret
    exact ⟨by rw [cellsEqB, HE.out]; rfl, Below.refl _ _⟩
end Go.Proofs.YthpfhlhoekgpjaaDoor
