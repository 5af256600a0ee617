/- VtparsePrints is true and never panics for every input of bulk at most 1048576; its other condition, that the listed tables hold what the program's text lays, is tied to that text. -/
import Derived.Test.YtnolkpknoljacaaDoorWm
import Derived.Test.YtnolkpknoljacaaDoorCards
import Derived.Test.YtnolkpknoljacaaDoorTie
namespace Go.Proofs.YtnolkpknoljacaaDoor
open Go
set_option maxRecDepth 100000

theorem vtparsePrints_upto_card : Rows.VtparsePrintsUptoCardSaid :=
  Claim7.holds_tied_plain_at .later [] [.data, .pinned] true (true, "b5b48afdb3fdb6a07fbd79f85944063154c88585d94f4b8becb40059c63052cf") false
    vtparsePrints_upto_holds (fun _ h => by cases h) (by kernel_rfl) (fun _ h => by cases h) vtparsePrintsUpto_row_tie rfl ⟨rfl, rfl⟩ (by kernel_rfl) rfl
    (fun f fn hf hfn => by
      obtain rfl : f = 3 := Option.some.inj ((show Tryd.prog.funcNamed "lanyard/lanyardlaw05.VtparsePrints" = some 3 by kernel_rfl).symm.trans hf) |>.symm
      obtain rfl : fn = Tryd.f3 := (Option.some.inj (Tryd.func3.symm.trans hfn)).symm
      exact ⟨by kernel_rfl, fun j t ht => by
        rw [Tryd.params3] at ht
        have h3 : t = 22 := by
          rcases j with _ | j
          · simpa using ht.symm
          · simp at ht
        subst h3
        exact (show Tryd.prog.wantsStandIn 22 = false by kernel_rfl)⟩)
    (by kernel_rfl)
end Go.Proofs.YtnolkpknoljacaaDoor
