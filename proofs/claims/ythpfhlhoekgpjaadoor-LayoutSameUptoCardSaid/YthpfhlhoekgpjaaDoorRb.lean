/- layout.Render at what Check refuses. -/
import Derived.Test.YthpfhlhoekgpjaaDoorP
set_option linter.unusedVariables false
set_option linter.unusedSimpArgs false
namespace Go.Proofs.YthpfhlhoekgpjaaDoor
open Go.RowKit

set_option maxRecDepth 100000 in
set_option maxHeartbeats 4000000 in
theorem render_bad_calls (A A' : Option Addr) (np nl c c' : Nat) (point rows cols : Int) (across : Bool) (w : World) (hp : np ≤ 9223372036854775807) (hl : nl ≤ 9223372036854775807) (hck : ¬ checkF np nl point rows cols = 0) :
    Calls Tryd.prog 10 #[.agg #[.slice A np c, .slice A' nl c', .int .i64 point, .int .i64 rows, .int .i64 cols, .bool across]] w fun e w' =>
      e = .returned (.tuple #[.agg #[.slice none 0 0, .int .i64 0, .int .i64 0, .int .i64 0], .int .i64 (checkF np nl point rows cols)]) ∧ Below w.heap.size w w' := by
  have HC := Hd.mk (fun w => rows_bad_calls A A' np nl c c' point rows cols across w hp hl hck)
  have hckb : (checkF np nl point rows cols != 0) = true := by simpa using hck
  clear hck
  generalize checkF np nl point rows cols = ck at *
  have HB0 := Hd.mk (show Below w.heap.size w ((w.alloc (.cells #[.slice A np c, .slice A' nl c', .int .i64 point, .int .i64 rows, .int .i64 cols, .bool across] 24)).alloc (.cells #[.slice none 0 0, .int .i64 0, .int .i64 0, .int .i64 0] 29)) from
    ((Below.refl _ _).alloc (Nat.le_refl _) _).alloc (by simp) _)
  have hres : ((w.alloc (.cells #[.slice A np c, .slice A' nl c', .int .i64 point, .int .i64 rows, .int .i64 cols, .bool across] 24)).alloc (.cells #[.slice none 0 0, .int .i64 0, .int .i64 0, .int .i64 0] 29)).heap[w.heap.size + 1]? = some (.cells #[.slice none 0 0, .int .i64 0, .int .i64 0, .int .i64 0] 29 (0, 0)) := by
    have := heap_alloc_new (w.alloc (.cells #[.slice A np c, .slice A' nl c', .int .i64 point, .int .i64 rows, .int .i64 cols, .bool across] 24)) (.cells #[.slice none 0 0, .int .i64 0, .int .i64 0, .int .i64 0] 29)
    simpa using this
  have HR := Hd.mk hres
  clear hres
  go_enter Tryd.func10, Tryd.ntmps10
  go_wp2_with fail
  generalize (w.alloc (.cells #[.slice A np c, .slice A' nl c', .int .i64 point, .int .i64 rows, .int .i64 cols, .bool across] 24)).alloc (.cells #[.slice none 0 0, .int .i64 0, .int .i64 0, .int .i64 0] 29) = w0 at *
  refine (HC.out _).mono ?_
  rintro e w1 ⟨rfl, hb1⟩
  have hb2 := below_next hb1 (below_alloc1 w1 (.cells #[.int .i64 0, .int .i64 0] 27))
  have HB1 := Hd.mk (below_next HB0.out hb2)
  have HR1 := Hd.mk (box_touch HR.out (Touch.of_below (S := fun _ => False) hb2) id)
  clear hb1 hb2
  go_upto_region 3 with (fail)
  generalize w1.alloc (.cells #[.int .i64 0, .int .i64 0] 27) = w2 at *
  have r0 : w2.cell? ⟨w.heap.size + 1, 0, none⟩ = some (.slice none 0 0) := by rw [blk_cell HR1.out]; rfl
  have r1 : w2.cell? ⟨w.heap.size + 1, 1, none⟩ = some (.int .i64 0) := by rw [blk_cell HR1.out]; rfl
  have r2 : w2.cell? ⟨w.heap.size + 1, 2, none⟩ = some (.int .i64 0) := by rw [blk_cell HR1.out]; rfl
  have r3 : w2.cell? ⟨w.heap.size + 1, 3, none⟩ = some (.int .i64 0) := by rw [blk_cell HR1.out]; rfl
  have f0 : w2.frozen? ⟨w.heap.size + 1, 0, none⟩ = false := blk_froz HR1.out _
  have f1 : w2.frozen? ⟨w.heap.size + 1, 1, none⟩ = false := blk_froz HR1.out _
  have f2 : w2.frozen? ⟨w.heap.size + 1, 2, none⟩ = false := blk_froz HR1.out _
  have f3 : w2.frozen? ⟨w.heap.size + 1, 3, none⟩ = false := blk_froz HR1.out _
  go_wp2_with fail
  exact bodyPost_ret (v := .tuple #[.agg #[.slice none 0 0, .int .i64 0, .int .i64 0, .int .i64 0], .int .i64 ck]) (by simp [results, Tryd.results10, go_sem, r0, r1, r2, r3]) rfl ⟨rfl, (((HB1.out.setCell (p := ⟨w.heap.size + 1, 0, none⟩) (Nat.le_succ _) _).setCell (p := ⟨w.heap.size + 1, 1, none⟩) (Nat.le_succ _) _).setCell (p := ⟨w.heap.size + 1, 2, none⟩) (Nat.le_succ _) _).setCell (p := ⟨w.heap.size + 1, 3, none⟩) (Nat.le_succ _) _⟩
end Go.Proofs.YthpfhlhoekgpjaaDoor
