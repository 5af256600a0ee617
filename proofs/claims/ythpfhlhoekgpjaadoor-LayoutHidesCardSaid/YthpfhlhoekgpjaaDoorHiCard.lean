/- LayoutHides is true for every input and never panics; its condition, that the listed tables hold what the program's text lays, is tied to that text. -/
import Derived.Test.YthpfhlhoekgpjaaDoorRhi
import Derived.Test.YthpfhlhoekgpjaaDoorCards
import Derived.Test.YthpfhlhoekgpjaaDoorTie
namespace Go.Proofs.YthpfhlhoekgpjaaDoor
open Go
set_option maxRecDepth 100000

theorem layoutHides_card : Rows.LayoutHidesCardSaid :=
  Claim7.holds_tied_plain_at .later [] [.data, .widerDeep, .widerDeep, .pinned] true (true, "7d8a38d7472f517003cc8678df1eaeb8a0ef9ce476b7608b14b3662ed71aee62") false
    layoutHides_holds (fun _ h => by cases h) (by kernel_rfl) (fun _ h => by cases h) layoutHides_row_tie rfl ⟨rfl, rfl⟩ (by kernel_rfl) rfl
    (fun f fn hf hfn => by
      obtain rfl : f = 9 := Option.some.inj ((show Tryd.prog.funcNamed "lanyard/lanyardlaw23.LayoutHides" = some 9 by kernel_rfl).symm.trans hf) |>.symm
      obtain rfl : fn = Tryd.f9 := (Option.some.inj (Tryd.func9.symm.trans hfn)).symm
      exact ⟨by kernel_rfl, fun j t ht => by
        rw [Tryd.params9] at ht
        have h3 : t = 24 := by
          rcases j with _ | j
          · simpa using ht.symm
          · simp at ht
        subst h3
        exact (show Tryd.prog.wantsStandIn 24 = false by kernel_rfl)⟩)
    (by kernel_rfl)
end Go.Proofs.YthpfhlhoekgpjaaDoor
