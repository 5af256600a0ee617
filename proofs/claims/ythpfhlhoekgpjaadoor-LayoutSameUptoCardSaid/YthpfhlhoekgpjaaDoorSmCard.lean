/- LayoutSame is true and never panics for every input of bulk at most 1048576; its other condition, that the listed tables hold what the program's text lays, is tied to that text. -/
import Derived.Test.YthpfhlhoekgpjaaDoorRsm
import Derived.Test.YthpfhlhoekgpjaaDoorCards
import Derived.Test.YthpfhlhoekgpjaaDoorTie
namespace Go.Proofs.YthpfhlhoekgpjaaDoor
open Go
set_option maxRecDepth 100000

theorem layoutSame_upto_card : Rows.LayoutSameUptoCardSaid :=
  Claim7.holds_tied_plain_at .later [] [.data, .widerDeep, .widerDeep, .pinned] true (true, "7d8a38d7472f517003cc8678df1eaeb8a0ef9ce476b7608b14b3662ed71aee62") false
    layoutSame_upto_holds (fun _ h => by cases h) (by kernel_rfl) (fun _ h => by cases h) layoutSameUpto_row_tie rfl ⟨rfl, rfl⟩ (by kernel_rfl) rfl
    (fun f fn hf hfn => by
      obtain rfl : f = 8 := Option.some.inj ((show Tryd.prog.funcNamed "lanyard/lanyardlaw23.LayoutSame" = some 8 by kernel_rfl).symm.trans hf) |>.symm
      obtain rfl : fn = Tryd.f8 := (Option.some.inj (Tryd.func8.symm.trans hfn)).symm
      exact ⟨by kernel_rfl, fun j t ht => by
        rw [Tryd.params8] at ht
        have h3 : t = 29 ∨ t = 29 := by
          rcases j with _ | _ | j
          · left; simpa using ht.symm
          · right; simpa using ht.symm
          · simp at ht
        rcases h3 with rfl | rfl
        · exact (show Tryd.prog.wantsStandIn 29 = false by kernel_rfl)
        · exact (show Tryd.prog.wantsStandIn 29 = false by kernel_rfl)⟩)
    (by kernel_rfl)
end Go.Proofs.YthpfhlhoekgpjaaDoor
