/- slices.Clone at runes and at cells; joins; blank; Check. -/
import Derived.Test.YthpfhlhoekgpjaaDoorF
import Derived.WalkSpells
set_option linter.unusedVariables false
set_option linter.unusedSimpArgs false
namespace Go.Proofs.YthpfhlhoekgpjaaDoor
open Go.RowKit

theorem own_empty (w : World) (e sz : Nat) : (w.alloc (.cells #[] e)).ownsRow w.heap.size e sz (.slice (some ⟨w.heap.size, 0, none⟩) 0 0) 0 [] :=
  World.ownsRow_made w #[] 0 (Nat.le_refl _) (Nat.zero_le _) (by simp)
theorem below_alloc1 (w : World) (o : Obj) : Below w.heap.size w (w.alloc o) := (Below.refl _ _).alloc (Nat.le_refl _) _

set_option maxRecDepth 100000 in
theorem clone_calls (v : Value) (l : List Int) (w : World) (hv : RI w v l) (hn : l.length * 4 ≤ 140737488355328) :
    Calls Tryd.prog 18 #[v] w fun e w' => ∃ v', e = .returned v' ∧ OI w' w.heap.size v' l ∧ Below w.heap.size w w' := by
  have HV := Hd.mk hv
  obtain ⟨A, c, rfl, h1, h2, h3⟩ := hv
  have heq : ∀ w : World, (binOp .eql 22 (.slice A l.length c) (.slice none 0 0)).run Tryd.prog w = .ok (.bool A.isNone) w := fun w => Lib.run_eql_slice_nil w 22 21 A _ _ _ _ Tryd.underlying22
  cases A with
  | none =>
    have hl : l = [] := by
      rcases h3 with h3 | ⟨b, o, h, _⟩
      · simpa [nums] using h3
      · cases h
    subst hl
    clear HV h3
    simp only [List.length_nil] at heq ⊢
    go_enter Tryd.func18, Tryd.ntmps18
    go_wp2_with fail
    go_ret
    exact ⟨_, rfl, World.ownsRow_nil _ _ _ _, Below.refl _ _⟩
  | some a =>
    have HO := own_empty w 21 1
    have HB := below_alloc1 w (.cells #[] 21)
    have HV2 := Hd.mk (Rd.below HV.out HB)
    have HO2 := Hd.mk HO
    have hb : (0 + l.length) * 4 ≤ 140737488355328 := by omega
    clear HO h3 HV
    go_enter Tryd.func18, Tryd.ntmps18
    go_wp2_with (at_builtin; refine app_rd rfl (.tmp 5) (.tmp 6) 22 21 _ 1 4 rfl Tryd.underlying22 Tryd.info21 rfl (by decide) (by decide) w.heap.size _ _ 0 l.length [] (nums l) rfl rfl HV2.out (by simp [nums]) (nums_one l) HO2.out (by simp) hb ?_)
    intro v1 w1 hown1 hgr1 hat1
    have hb1 : Below w.heap.size w w1 := HB.grown hgr1 (by simp) (fun j hj => (own_lt HO2.out j hj).1)
    have HX := Hd.mk (And.intro (OI.mk (l := l) hown1 (by simp) (by simp)) hb1)
    clear hown1 hgr1 hat1 hb1
    go_wp2_with fail
    go_ret
    exact ⟨_, rfl, HX.out.1, HX.out.2⟩

set_option maxRecDepth 100000 in
theorem cloneC_calls (v : Value) (l : List Cell) (w : World) (hv : RC w v l) (hn : l.length * 32 ≤ 140737488355328) :
    Calls Tryd.prog 20 #[v] w fun e w' => ∃ v', e = .returned v' ∧ OC w' w.heap.size v' l ∧ Below w.heap.size w w' := by
  have HV := Hd.mk hv
  obtain ⟨A, c, rfl, h1, h2, h3⟩ := hv
  have heq : ∀ w : World, (binOp .eql 35 (.slice A l.length c) (.slice none 0 0)).run Tryd.prog w = .ok (.bool A.isNone) w := fun w => Lib.run_eql_slice_nil w 35 37 A _ _ _ _ Tryd.underlying35
  cases A with
  | none =>
    have hl : l = [] := by
      rcases h3 with h3 | ⟨b, o, h, _⟩
      · have := encs_length l; rw [h3] at this; exact List.eq_nil_of_length_eq_zero (by simp at this; omega)
      · cases h
    subst hl
    clear HV h3
    simp only [List.length_nil] at heq ⊢
    go_enter Tryd.func20, Tryd.ntmps20
    go_wp2_with fail
    go_ret
    exact ⟨_, rfl, World.ownsRow_nil _ _ _ _, Below.refl _ _⟩
  | some a =>
    have HO := own_empty w 37 3
    have HB := below_alloc1 w (.cells #[] 37)
    have HV2 := Hd.mk (Rd.below HV.out HB)
    have HO2 := Hd.mk HO
    have hb : (0 + l.length) * 32 ≤ 140737488355328 := by omega
    clear HO h3 HV
    go_enter Tryd.func20, Tryd.ntmps20
    go_wp2_with (at_builtin; refine app_rd rfl (.tmp 5) (.tmp 6) 35 37 _ 3 32 rfl Tryd.underlying35 Tryd.info37 rfl (by decide) (by decide) w.heap.size _ _ 0 l.length [] (encs l) rfl rfl HV2.out (encs_length l) (encs_one l) HO2.out (by simp) hb ?_)
    intro v1 w1 hown1 hgr1 hat1
    have hb1 : Below w.heap.size w w1 := HB.grown hgr1 (by simp) (fun j hj => (own_lt HO2.out j hj).1)
    have HX := Hd.mk (And.intro (OC.mk (l := l) hown1 (by simp) (by simp)) hb1)
    clear hown1 hgr1 hat1 hb1
    go_wp2_with fail
    go_ret
    exact ⟨_, rfl, HX.out.1, HX.out.2⟩

/-! ### blank, joins -/
theorem blank_calls (w : World) : Calls Tryd.prog 47 #[] w fun e w' => e = .returned (.agg #[.string ⟨#[32]⟩, .int .i64 1, .int .i64 0]) ∧ Below w.heap.size w w' := by
  go_enter Tryd.func47, Tryd.ntmps47
  go_wp2
  exact bodyPost_ret (v := .agg #[.string ⟨#[32]⟩, .int .i64 1, .int .i64 0]) (by simp [results, Tryd.results47, go_sem]) rfl ⟨rfl, below_alloc1 _ _⟩

def joinsF (r : Int) : Bool := decide (widthF r = 0) && !controlB r && !((Utf8.encode r).toList == [239, 191, 189])
set_option maxRecDepth 100000 in
theorem joins_calls (r : Int) (w : World) (hL : Laid w) :
    Calls Tryd.prog 54 #[.int .i32 r] w fun e w' => e = .returned (.bool (joinsF r)) ∧ Below w.heap.size w w' := by
  by_cases h0 : widthF r = 0
  · have h0b : (widthF r == 0) = true := beq_iff_eq.2 h0
    cases h1 : controlB r with
    | true =>
      have HF := Hd.mk (show joinsF r = false by simp [joinsF, h1])
      clear h0
      go_enter Tryd.func54, Tryd.ntmps54
      go_wp2_with (first | (go_at_call 13; refine (width_calls _ _ hL).mono ?_; rintro e w1 ⟨rfl, hb1⟩) | (go_at_call 17; refine (control_calls _ _).mono ?_; rintro e w' ⟨rfl, rfl⟩))
      go_ret
      exact ⟨retB HF.out.symm, hb1⟩
    | false =>
      have HF := Hd.mk (show joinsF r = !((Utf8.encode r).toList == [239, 191, 189]) by simp [joinsF, h1, h0])
      clear h0
      go_enter Tryd.func54, Tryd.ntmps54
      go_wp2_with (first | (go_at_call 13; refine (width_calls _ _ hL).mono ?_; rintro e w1 ⟨rfl, hb1⟩) | (go_at_call 17; refine (control_calls _ _).mono ?_; rintro e w' ⟨rfl, rfl⟩))
      go_ret
      exact ⟨retB HF.out.symm, hb1⟩
  · have h0b : (widthF r == 0) = false := beq_eq_false_iff_ne.2 h0
    have HF := Hd.mk (show joinsF r = false by simp [joinsF, h0])
    clear h0
    go_enter Tryd.func54, Tryd.ntmps54
    go_wp2_with (first | (go_at_call 13; refine (width_calls _ _ hL).mono ?_; rintro e w1 ⟨rfl, hb1⟩) | (go_at_call 17; refine (control_calls _ _).mono ?_; rintro e w' ⟨rfl, rfl⟩))
    go_ret
    exact ⟨retB HF.out.symm, hb1⟩

/-! ### Check -/
def checkF (np nl : Nat) (point rows cols : Int) : Int :=
  if rows < 2 ∨ 60 < rows ∨ cols < 8 ∨ 200 < cols then 230 else if 1024 < np ∨ 1024 < nl then 3 else if point < 0 ∨ (nl : Int) < point then 1 else 0
set_option maxRecDepth 100000 in
set_option maxHeartbeats 1000000 in
theorem check_calls (A A' : Option Addr) (np nl c c' : Nat) (point rows cols : Int) (across : Bool) (w : World) (hp : np ≤ 9223372036854775807) (hl : nl ≤ 9223372036854775807) :
    Calls Tryd.prog 35 #[.agg #[.slice A np c, .slice A' nl c', .int .i64 point, .int .i64 rows, .int .i64 cols, .bool across]] w fun e w' => e = .returned (.int .i64 (checkF np nl point rows cols)) ∧ Below w.heap.size w w' := by
  have HB := below_alloc1 w (.cells #[.slice A np c, .slice A' nl c', .int .i64 point, .int .i64 rows, .int .i64 cols, .bool across] 24)
  go_enter Tryd.func35, Tryd.ntmps35
  go_wp2
  all_goals (go_ret; refine ⟨retI ?_, HB⟩; unfold checkF; (repeat' split) <;> omega)
set_option maxRecDepth 100000 in
set_option maxHeartbeats 1000000 in
theorem rcheck_calls (A A' : Option Addr) (np nl c c' : Nat) (point rows cols : Int) (across : Bool) (w : World) (hp : np ≤ 9223372036854775807) (hl : nl ≤ 9223372036854775807) :
    Calls Tryd.prog 12 #[.agg #[.slice A np c, .slice A' nl c', .int .i64 point, .int .i64 rows, .int .i64 cols, .bool across]] w fun e w' => e = .returned (.int .i64 (checkF np nl point rows cols)) ∧ Below w.heap.size w w' := by
  have HB := below_alloc1 w (.cells #[.slice A np c, .slice A' nl c', .int .i64 point, .int .i64 rows, .int .i64 cols, .bool across] 24)
  go_enter Tryd.func12, Tryd.ntmps12
  go_wp2
  all_goals (go_ret; refine ⟨retI ?_, HB⟩; unfold checkF; (repeat' split) <;> omega)
end Go.Proofs.YthpfhlhoekgpjaaDoor
