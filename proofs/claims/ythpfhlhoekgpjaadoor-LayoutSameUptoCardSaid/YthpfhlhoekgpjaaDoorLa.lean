/- From the rows' premise on the tables to what the walks ask. -/
import Derived.Test.YthpfhlhoekgpjaaDoorA
import Derived.Test.YthpfhlhoekgpjaaDoorRows
import Derived.Lib.LaidU8
import Derived.LaidHandle
set_option linter.unusedVariables false
set_option linter.unusedSimpArgs false
namespace Go.Proofs.YthpfhlhoekgpjaaDoor
open Go.RowKit Go.Lib

def pairsData (l : List (Int × Int)) : DataW Unit := .agg (l.map fun p => .agg ([p.1, p.2].map fun z => .lit (.int .i32 z)))
theorem none_data : (Rows.laid_lanyard_ucell_none : DataW Unit) = pairsData noneT := by rfl
theorem wide_data : (Rows.laid_lanyard_ucell_wide : DataW Unit) = pairsData wideT := by rfl
theorem pairs_of_laid {W : World} {l : List (Int × Int)} {nm : String} {b : Nat} {t : TypeId} (h : VarReads Tryd.prog W nm (pairsData l)) (hg : Tryd.prog.globalNamed nm = some b) (ht : (Tryd.prog.globals[b]?).map (·.type) = some t)
    (hu : Tryd.prog.underlying t = some (.array l.length 60)) (h0 : 0 < l.length) : Pairs W b l := by
  obtain ⟨g, t', cs, fuel, p, e1, e2, e3, e4⟩ := h
  rw [hg] at e1
  injection e1 with e1
  subst e1
  rw [ht] at e2
  injection e2 with e2
  subst e2
  have hc60 : Tryd.prog.cellsOf 60 = 2 := by kernel_rfl
  have hel : ∀ i, i < l.length → cs[i * 2]? = some (.int .i32 (l.getD i (0, 0)).1) ∧ cs[i * 2 + 1]? = some (.int .i32 (l.getD i (0, 0)).2) := by
    intro i hi
    obtain ⟨fuel', d, q, hd, hf⟩ := array_elem hu e4 i hi
    rw [List.getElem?_map, List.getElem?_eq_getElem hi] at hd
    simp only [Option.map_some, Option.some.injEq] at hd
    subst hd
    have hz := ints_of_struct (zs := [l[i].1, l[i].2]) Tryd.underlying60 (by
      intro j f hj
      match j, hj with
      | 0, hj => simp at hj; subst hj; exact ⟨Tryd.underlying21, rfl, by kernel_rfl⟩
      | 1, hj => simp at hj; subst hj; exact ⟨Tryd.underlying21, rfl, by kernel_rfl⟩
      | j + 2, hj => simp at hj) (by kernel_rfl) hf
    rw [hc60] at hz
    have hgd : l.getD i (0, 0) = l[i] := by simp [List.getD, hi]
    rw [hgd]
    have a0 := congrArg (·[0]?) hz
    have a1 := congrArg (·[1]?) hz
    simp [List.getElem?_take, List.getElem?_drop] at a0 a1
    exact ⟨by simpa using a0, by simpa using a1⟩
  refine ⟨?_, ?_, ?_⟩
  · have := World.var?_cell hg e3 (0 * 2)
    rw [(hel 0 h0).1] at this
    exact World.block_lt_of_cell? W _ this
  · intro j hj
    rw [World.var?_cell hg e3]
    exact (hel j hj).1
  · intro j hj
    rw [World.var?_cell hg e3]
    exact (hel j hj).2
def seatLaid : List (String × DataW Unit) := [("unicode/utf8.acceptRanges", Rows.laid_unicode_utf8_acceptRanges), ("lanyard/ucell.none", Rows.laid_lanyard_ucell_none), ("lanyard/ucell.wide", Rows.laid_lanyard_ucell_wide), ("unicode/utf8.first", Rows.laid_unicode_utf8_first)]
theorem laid_of {W : World} (h : laidMetH Tryd.prog seatLaid W) : Laid W := by
  change laidMet Tryd.prog seatLaid W at h
  have h1 := laidMet.reads h (n := "lanyard/ucell.none") (d := Rows.laid_lanyard_ucell_none) (.tail _ (.head _))
  have h2 := laidMet.reads h (n := "lanyard/ucell.wide") (d := Rows.laid_lanyard_ucell_wide) (.tail _ (.tail _ (.head _)))
  rw [none_data] at h1
  rw [wide_data] at h2
  exact ⟨pairs_of_laid (t := 61) h1 (by kernel_rfl) (by kernel_rfl) (by kernel_rfl) (by decide), pairs_of_laid (t := 62) h2 (by kernel_rfl) (by kernel_rfl) (by kernel_rfl) (by decide)⟩
end Go.Proofs.YthpfhlhoekgpjaaDoor
