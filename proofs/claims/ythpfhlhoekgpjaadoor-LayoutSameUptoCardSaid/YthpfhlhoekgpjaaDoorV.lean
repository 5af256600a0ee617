/- The statements' live. -/
import Derived.Laws.IdiomStrings
import Derived.Test.YthpfhlhoekgpjaaDoorU
set_option linter.unusedVariables false
set_option linter.unusedSimpArgs false
namespace Go.Proofs.YthpfhlhoekgpjaaDoor
open Go.RowKit

theorem runesOf_calls (s : ByteArray) (l : List Int) (w : World) (hl : Conv.runesFrom s s.size 0 #[] = (nums l).toArray) (hn : l.length ≤ 1000) :
    Calls Tryd.prog 32 #[.string s] w fun e w' => ∃ v', e = .returned v' ∧ RI w' v' l ∧ Below w.heap.size w w' := by
  have hsz : (nums l).toArray.size = l.length := by simp [nums]
  have hconv := run_runes_of_string (P := Tryd.prog) w 9 22 21 s Tryd.underlying9 Tryd.underlying22 Tryd.underlying21 (by rw [hl, hsz]; omega)
  rw [hl, hsz] at hconv
  have k1 := grownCap_ge w l.length 0 21
  have k2 := grownCap_le_maxLen w l.length 0 21 (by unfold maxLen; omega)
  generalize grownCap w l.length 0 21 = cap at *
  have HB := Hd.mk (show Below w.heap.size w (w.drew.alloc (.cells ((nums l).toArray ++ Array.replicate (cap - l.length) (.int .i32 0)) 21)) from
    below_then (drewN_below w 1) (Nat.le_refl _) (below_alloc1 w.drew _))
  have HR : Hd (RI (w.drew.alloc (.cells ((nums l).toArray ++ Array.replicate (cap - l.length) (.int .i32 0)) 21)) (.slice (some ⟨w.heap.size, 0, none⟩) l.length cap) l) := by
    refine ⟨some ⟨w.heap.size, 0, none⟩, cap, rfl, k1, k2, .inr ⟨w.heap.size, 0, rfl, ?_⟩⟩
    intro j u hu
    have hb := heap_alloc_new w.drew (.cells ((nums l).toArray ++ Array.replicate (cap - l.length) (.int .i32 0)) 21)
    rw [Nat.zero_add]
    have hb2 : (w.drew.alloc (.cells ((nums l).toArray ++ Array.replicate (cap - l.length) (.int .i32 0)) 21)).heap[w.heap.size]? = some (.cells ((nums l).toArray ++ Array.replicate (cap - l.length) (.int .i32 0)) 21 (0, 0)) := hb
    rw [blk_cell hb2]
    have hj : j < (nums l).length := (List.getElem?_eq_some_iff.1 hu).1
    rw [Array.getElem?_append_left (by simpa using hj)]
    simpa using hu
  clear hl hsz
  generalize w.drew.alloc (.cells ((nums l).toArray ++ Array.replicate (cap - l.length) (.int .i32 0)) 21) = w1 at *
  go_enter Tryd.func32, Tryd.ntmps32
  go_wp2_with fail
  exact bodyPost_ret (v := .slice (some ⟨w.heap.size, 0, none⟩) l.length cap) (by simp [results, Tryd.results32, go_sem]) rfl ⟨_, rfl, HR.out, HB.out⟩

theorem live_render : renderF [36, 32] [97, 98] 1 24 80 false = ([[⟨⟨#[36]⟩, 1, 0⟩, ⟨⟨#[32]⟩, 1, 0⟩, ⟨⟨#[97]⟩, 1, 0⟩, ⟨⟨#[98]⟩, 1, 0⟩]], 0, 3, 0) := by kernel_rfl
theorem live_text : textF [[⟨⟨#[36]⟩, 1, 0⟩, ⟨⟨#[32]⟩, 1, 0⟩, ⟨⟨#[97]⟩, 1, 0⟩, ⟨⟨#[98]⟩, 1, 0⟩]] = [⟨#[36, 32, 97, 98]⟩] := by kernel_rfl
end Go.Proofs.YthpfhlhoekgpjaaDoor
