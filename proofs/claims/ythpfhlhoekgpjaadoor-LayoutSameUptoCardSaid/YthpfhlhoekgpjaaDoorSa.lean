/- layout.Same. -/
import Derived.Test.YthpfhlhoekgpjaaDoorEf
import Derived.Deep.RegionHeld3
set_option linter.unusedVariables false
set_option linter.unusedSimpArgs false
namespace Go.Proofs.YthpfhlhoekgpjaaDoor
open Go.RowKit

def sameF (xs ys : List (List Cell)) (r1 c1 r2 c2 : Int) : Bool := (r1 == r2 && (c1 == c2)) && rowsEqB (bareF xs) (bareF ys)

set_option maxRecDepth 100000 in
set_option maxHeartbeats 4000000 in
theorem same_calls (v u : Value) (xs ys : List (List Cell)) (r1 c1 a1 r2 c2 a2 : Int) (w : World) (hv : RR w v xs) (hu : RR w u ys) (hn : xs.length * 24 ≤ 140737488355328) (hm : ys.length * 24 ≤ 140737488355328) (hs : ∀ l ∈ xs, l.length * 32 ≤ 140737488355328) (ht : ∀ l ∈ ys, l.length * 32 ≤ 140737488355328) :
    Calls Tryd.prog 26 #[.agg #[v, .int .i64 r1, .int .i64 c1, .int .i64 a1], .agg #[u, .int .i64 r2, .int .i64 c2, .int .i64 a2]] w fun e w' => e = .returned (.bool (sameF xs ys r1 c1 r2 c2)) ∧ Below w.heap.size w w' := by
  have HV := Hd.mk hv
  have HU := Hd.mk hu
  have HBA := Hd.mk (fun wx (hb : RR wx v xs) => bare_calls v xs wx hb hn hs)
  have HBU := Hd.mk (fun wx (hb : RR wx u ys) => bare_calls u ys wx hb hm ht)
  obtain ⟨A, c, rfl, -, -⟩ := hv.slice
  obtain ⟨B, d, rfl, -, -⟩ := hu.slice
  clear hv hu hs ht hn hm
  have hgd : Tryd.prog.eqGuardType Tryd.prog.depth 27 = false := by kernel_rfl
  have heq := fun w : World => eql27 w r1 r2 c1 c2
  have HB0 := Hd.mk (show Below w.heap.size w ((w.alloc (.cells #[.slice A xs.length c, .int .i64 r1, .int .i64 c1, .int .i64 a1] 29)).alloc (.cells #[.slice B ys.length d, .int .i64 r2, .int .i64 c2, .int .i64 a2] 29)) from ((Below.refl _ _).alloc (Nat.le_refl _) _).alloc (by simp) _)
  have HX0 := Hd.mk (show ((w.alloc (.cells #[.slice A xs.length c, .int .i64 r1, .int .i64 c1, .int .i64 a1] 29)).alloc (.cells #[.slice B ys.length d, .int .i64 r2, .int .i64 c2, .int .i64 a2] 29)).heap[w.heap.size]? = some (.cells #[.slice A xs.length c, .int .i64 r1, .int .i64 c1, .int .i64 a1] 29 (0, 0)) from heap_at (heap_alloc_new _ _))
  have HY0 := Hd.mk (show ((w.alloc (.cells #[.slice A xs.length c, .int .i64 r1, .int .i64 c1, .int .i64 a1] 29)).alloc (.cells #[.slice B ys.length d, .int .i64 r2, .int .i64 c2, .int .i64 a2] 29)).heap[w.heap.size + 1]? = some (.cells #[.slice B ys.length d, .int .i64 r2, .int .i64 c2, .int .i64 a2] 29 (0, 0)) from by
    have := heap_alloc_new (w.alloc (.cells #[.slice A xs.length c, .int .i64 r1, .int .i64 c1, .int .i64 a1] 29)) (.cells #[.slice B ys.length d, .int .i64 r2, .int .i64 c2, .int .i64 a2] 29)
    simpa using this)
  cases hb : (r1 == r2 && (c1 == c2)) with
  | false =>
    have HF := Hd.mk (show sameF xs ys r1 c1 r2 c2 = false by simp only [sameF, hb, Bool.false_and])
    rw [hb] at heq
    clear hb
    go_enter Tryd.func26, Tryd.ntmps26
    go_upto_region 1 with (fail)
    generalize (w.alloc (.cells #[.slice A xs.length c, .int .i64 r1, .int .i64 c1, .int .i64 a1] 29)).alloc (.cells #[.slice B ys.length d, .int .i64 r2, .int .i64 c2, .int .i64 a2] 29) = w2 at *
    have x1 : w2.cell? ⟨w.heap.size, 1, none⟩ = some (.int .i64 r1) := by rw [blk_cell HX0.out]; rfl
    have x2 : w2.cell? ⟨w.heap.size, 2, none⟩ = some (.int .i64 c1) := by rw [blk_cell HX0.out]; rfl
    have y1 : w2.cell? ⟨w.heap.size + 1, 1, none⟩ = some (.int .i64 r2) := by rw [blk_cell HY0.out]; rfl
    have y2 : w2.cell? ⟨w.heap.size + 1, 2, none⟩ = some (.int .i64 c2) := by rw [blk_cell HY0.out]; rfl
    go_quiet (fail)
    go_wp2_with fail
    go_ret
    exact ⟨by rw [HF.out]; rfl, below_next HB0.out (quiet_below _)⟩
  | true =>
    have HF := Hd.mk (show sameF xs ys r1 c1 r2 c2 = rowsEqB (bareF xs) (bareF ys) by simp only [sameF, hb, Bool.true_and])
    rw [hb] at heq
    clear hb
    go_enter Tryd.func26, Tryd.ntmps26
    go_upto_region 1 with (fail)
    generalize (w.alloc (.cells #[.slice A xs.length c, .int .i64 r1, .int .i64 c1, .int .i64 a1] 29)).alloc (.cells #[.slice B ys.length d, .int .i64 r2, .int .i64 c2, .int .i64 a2] 29) = w2 at *
    have x0 : w2.cell? ⟨w.heap.size, 0, none⟩ = some (.slice A xs.length c) := by rw [blk_cell HX0.out]; rfl
    have x1 : w2.cell? ⟨w.heap.size, 1, none⟩ = some (.int .i64 r1) := by rw [blk_cell HX0.out]; rfl
    have x2 : w2.cell? ⟨w.heap.size, 2, none⟩ = some (.int .i64 c1) := by rw [blk_cell HX0.out]; rfl
    have y0 : w2.cell? ⟨w.heap.size + 1, 0, none⟩ = some (.slice B ys.length d) := by rw [blk_cell HY0.out]; rfl
    have y1 : w2.cell? ⟨w.heap.size + 1, 1, none⟩ = some (.int .i64 r2) := by rw [blk_cell HY0.out]; rfl
    have y2 : w2.cell? ⟨w.heap.size + 1, 2, none⟩ = some (.int .i64 c2) := by rw [blk_cell HY0.out]; rfl
    have HXY := Hd.mk (show ∀ w', Below w2.heap.size w2 w' → w'.cell? ⟨w.heap.size, 0, none⟩ = some (.slice A xs.length c) ∧ w'.cell? ⟨w.heap.size, 1, none⟩ = some (.int .i64 r1) ∧ w'.cell? ⟨w.heap.size, 2, none⟩ = some (.int .i64 c1) ∧ w'.cell? ⟨w.heap.size + 1, 0, none⟩ = some (.slice B ys.length d) ∧ w'.cell? ⟨w.heap.size + 1, 1, none⟩ = some (.int .i64 r2) ∧ w'.cell? ⟨w.heap.size + 1, 2, none⟩ = some (.int .i64 c2) from
      fun w' h => ⟨below_cell h x0, below_cell h x1, below_cell h x2, below_cell h y0, below_cell h y1, below_cell h y2⟩)
    have HRA := Hd.mk (show ∀ w', Below w2.heap.size w2 w' → RR w' (.slice A xs.length c) xs from fun w' h => HV.out.below (below_next HB0.out h))
    have HRB := Hd.mk (show ∀ w', Below w2.heap.size w2 w' → RR w' (.slice B ys.length d) ys from fun w' h => HU.out.below (below_next HB0.out h))
    have hb2 : Below w2.heap.size w2 w2.drew := ⟨rfl, rfl, rfl, Nat.le_refl _, fun _ _ => rfl⟩
    go_region_held3 (fun w' => w'.cell? ⟨w.heap.size, 0, none⟩ = some (.slice A xs.length c) ∧ w'.cell? ⟨w.heap.size, 1, none⟩ = some (.int .i64 r1) ∧ w'.cell? ⟨w.heap.size, 2, none⟩ = some (.int .i64 c1) ∧ w'.cell? ⟨w.heap.size + 1, 0, none⟩ = some (.slice B ys.length d) ∧ w'.cell? ⟨w.heap.size + 1, 1, none⟩ = some (.int .i64 r2) ∧ w'.cell? ⟨w.heap.size + 1, 2, none⟩ = some (.int .i64 c2))
      (first | exact HXY.out _ hc5 | exact HXY.out _ hcB | exact HXY.out _ hcA | go_keep)
      (first
        | (go_at_call 23; (with_reducible refine (equalRows_calls _ _ (bareF xs) (bareF ys) _ ?_ ?_).mono ?_); (first | exact ha | exact ha.below hbB); (first | exact hb | exact hb.below hbA); rintro e w5 ⟨rfl, hb5⟩; have hc5 : Below w2.heap.size w2 w5 := (by first | exact below_next hcB hb5 | exact below_next hcA hb5))
        | (go_at_call 49; (with_reducible refine (HBA.out _ ?_).mono ?_); (first | exact HRA.out _ hcB | exact HRA.out _ hb2); rintro e wA ⟨vA, rfl, ha, hbA⟩; have hcA : Below w2.heap.size w2 wA := (by first | exact below_next hcB hbA | exact undrew hbA))
        | (go_at_call 49; (with_reducible refine (HBU.out _ ?_).mono ?_); (first | exact HRB.out _ hcA | exact HRB.out _ hb2); rintro e wB ⟨vB, rfl, hb, hbB⟩; have hcB : Below w2.heap.size w2 wB := (by first | exact below_next hcA hbB | exact undrew hbB)))
    all_goals
      go_wp2_with fail
      go_ret
      exact ⟨by rw [HF.out]; rfl, below_next HB0.out hc5⟩
end Go.Proofs.YthpfhlhoekgpjaaDoor
