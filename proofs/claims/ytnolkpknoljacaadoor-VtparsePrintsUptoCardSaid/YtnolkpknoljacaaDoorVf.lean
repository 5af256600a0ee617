/- New, Put over one control sequence, All, the statements' live. -/
import Derived.Test.YtnolkpknoljacaaDoorVe
set_option linter.unusedVariables false
set_option linter.unusedSimpArgs false
namespace Go.Proofs.YtnolkpknoljacaaDoor
open Go.RowKit

set_option maxRecDepth 100000 in
theorem dnew_calls (w : World) : Calls Tryd.prog 25 #[] w fun e w' => e = .returned (.pointer (some ⟨w.heap.size, 0, none⟩)) ∧ w' = w.alloc (.cells #[.bool true, .slice none 0 0] 69) := by
  go_enter Tryd.func25, Tryd.ntmps25
  go_wp2_with fail
  go_ret
  exact ⟨rfl, rfl⟩
set_option maxRecDepth 100000 in
theorem new_calls (w : World) : Calls Tryd.prog 9 #[] w fun e w' => e = .returned (.pointer (some ⟨w.heap.size + 1, 0, none⟩)) ∧ PF w w.heap.size (w.heap.size + 1) w.heap.size 0 zeroA [] 0 [] (.slice none 0 0) (.slice none 0 0) w' := by
  have hx := heap_alloc_new (w.alloc (.cells #[.bool true, .slice none 0 0] 69)) (.cells (pcells 0 w.heap.size zeroA 0 (.slice none 0 0)) 51)
  have hd := heap_at (x := .cells (pcells 0 w.heap.size zeroA 0 (.slice none 0 0)) 51) (heap_alloc_new w (.cells #[.bool true, .slice none 0 0] 69))
  have hb := below_next (below_alloc1 w (.cells #[.bool true, .slice none 0 0] 69)) (below_alloc1 (w.alloc (.cells #[.bool true, .slice none 0 0] 69)) (.cells (pcells 0 w.heap.size zeroA 0 (.slice none 0 0)) 51))
  have HP : Hd (PF w w.heap.size (w.heap.size + 1) w.heap.size 0 zeroA [] 0 [] (.slice none 0 0) (.slice none 0 0) ((w.alloc (.cells #[.bool true, .slice none 0 0] 69)).alloc (.cells (pcells 0 w.heap.size zeroA 0 (.slice none 0 0)) 51))) :=
    ⟨⟨by simpa using hx, hd, World.ownsRow_nil _ _ _ _, World.ownsRow_nil _ _ _ _, hb, Nat.le_succ _, Nat.le_refl _, by simp; omega⟩⟩
  clear hx hd hb
  go_enter Tryd.func9, Tryd.ntmps9
  go_wp2_with (go_at_call 25; refine (dnew_calls _).mono ?_; rintro e w' ⟨rfl, rfl⟩)
  go_ret
  exact ⟨by simp, HP.out⟩
end Go.Proofs.YtnolkpknoljacaaDoor
