/- LayoutGrows is true for every input and never panics; its condition, that the listed tables hold what the program's text lays, is tied to that text. -/
import Derived.Test.YthpfhlhoekgpjaaDoorRgr
import Derived.Test.YthpfhlhoekgpjaaDoorCards
import Derived.Test.YthpfhlhoekgpjaaDoorTie
namespace Go.Proofs.YthpfhlhoekgpjaaDoor
open Go
set_option maxRecDepth 100000

theorem layoutGrows_card : Rows.LayoutGrowsCardSaid :=
  Claim7.holds_tied_plain_at .later [] [.data, .widerDeep, .widerDeep, .pinned] true (true, "7d8a38d7472f517003cc8678df1eaeb8a0ef9ce476b7608b14b3662ed71aee62") false
    layoutGrows_holds (fun _ h => by cases h) (by kernel_rfl) (fun _ h => by cases h) layoutGrows_row_tie rfl ⟨rfl, rfl⟩ (by kernel_rfl) rfl
    (fun f fn hf hfn => by
      obtain rfl : f = 5 := Option.some.inj ((show Tryd.prog.funcNamed "lanyard/lanyardlaw23.LayoutGrows" = some 5 by kernel_rfl).symm.trans hf) |>.symm
      obtain rfl : fn = Tryd.f5 := (Option.some.inj (Tryd.func5.symm.trans hfn)).symm
      exact ⟨by kernel_rfl, fun j t ht => by
        rw [Tryd.params5] at ht
        have h3 : t = 24 ∨ t = 21 := by
          rcases j with _ | _ | j
          · left; simpa using ht.symm
          · right; simpa using ht.symm
          · simp at ht
        rcases h3 with rfl | rfl
        · exact (show Tryd.prog.wantsStandIn 24 = false by kernel_rfl)
        · exact (show Tryd.prog.wantsStandIn 21 = false by kernel_rfl)⟩)
    (by kernel_rfl)
end Go.Proofs.YthpfhlhoekgpjaaDoor
