/- VtparseAsks is true for every input and never panics; its condition, that the listed tables hold what the program's text lays, is tied to that text. -/
import Derived.Test.YtnolkpknoljacaaDoorVm
import Derived.Test.YtnolkpknoljacaaDoorCards
import Derived.Test.YtnolkpknoljacaaDoorTie
namespace Go.Proofs.YtnolkpknoljacaaDoor
open Go
set_option maxRecDepth 100000

theorem vtparseAsks_card : Rows.VtparseAsksCardSaid :=
  Claim7.holds_tied_plain_at .later [] [.data, .pinned] true (true, "b5b48afdb3fdb6a07fbd79f85944063154c88585d94f4b8becb40059c63052cf") false
    vtparseAsks_holds (fun _ h => by cases h) (by kernel_rfl) (fun _ h => by cases h) vtparseAsks_row_tie rfl ⟨rfl, rfl⟩ (by kernel_rfl) rfl
    (fun f fn hf hfn => by
      obtain rfl : f = 5 := Option.some.inj ((show Tryd.prog.funcNamed "lanyard/lanyardlaw05.VtparseAsks" = some 5 by kernel_rfl).symm.trans hf) |>.symm
      obtain rfl : fn = Tryd.f5 := (Option.some.inj (Tryd.func5.symm.trans hfn)).symm
      exact ⟨by kernel_rfl, fun j t ht => by
        rw [Tryd.params5] at ht
        have h3 : t = 41 := by
          rcases j with _ | j
          · simpa using ht.symm
          · simp at ht
        subst h3
        exact (show Tryd.prog.wantsStandIn 41 = false by kernel_rfl)⟩)
    (by kernel_rfl)
end Go.Proofs.YtnolkpknoljacaaDoor
