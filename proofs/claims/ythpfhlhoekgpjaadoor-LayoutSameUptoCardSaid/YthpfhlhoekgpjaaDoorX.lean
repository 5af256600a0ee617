/- The statements' live: the walk. -/
import Derived.Test.YthpfhlhoekgpjaaDoorV
set_option linter.unusedVariables false
set_option linter.unusedSimpArgs false
namespace Go.Proofs.YthpfhlhoekgpjaaDoor
open Go.RowKit

def liveRows : List (List Cell) := [[⟨⟨#[36]⟩, 1, 0⟩, ⟨⟨#[32]⟩, 1, 0⟩, ⟨⟨#[97]⟩, 1, 0⟩, ⟨⟨#[98]⟩, 1, 0⟩]]
theorem live_small : ∀ l ∈ liveRows, ∀ k, k ≤ l.length → (rowText (l.take k)).size ≤ 1000000000 := by
  intro l hl k hk
  rcases List.mem_singleton.1 hl with rfl
  have : k = 0 ∨ k = 1 ∨ k = 2 ∨ k = 3 ∨ k = 4 := by simp at hk; omega
  rcases this with rfl | rfl | rfl | rfl | rfl <;> decide

set_option maxRecDepth 100000 in
set_option maxHeartbeats 4000000 in
theorem live_calls (w : World) (hL : Laid w) : Calls Tryd.prog 11 #[] w fun e w' => e = .returned (.bool true) ∧ Below w.heap.size w w' := by
  have HL := Hd.mk hL
  clear hL
  have HCK := Hd.mk (show checkF [36, 32].length [97, 98].length (1 : Nat) (24 : Nat) (80 : Nat) = 0 by decide)
  go_enter Tryd.func11, Tryd.ntmps11
  go_wp2_with fail
  refine (runesOf_calls ⟨#[36, 32]⟩ [36, 32] w (by kernel_rfl) (by decide)).mono ?_
  rintro e w1 ⟨v1, rfl, hr1, hb1⟩
  have HR1 := Hd.mk hr1
  have HB1 := Hd.mk hb1
  obtain ⟨A1, c1, rfl, -⟩ := hr1
  clear hb1
  go_wp2_with fail
  refine (runesOf_calls ⟨#[97, 98]⟩ [97, 98] w1 (by kernel_rfl) (by decide)).mono ?_
  rintro e w2 ⟨v2, rfl, hr2, hb2⟩
  have HR2 := Hd.mk hr2
  have HB2 := Hd.mk (below_next HB1.out hb2)
  have HR12 := Hd.mk (Rd.below HR1.out hb2)
  obtain ⟨A2, c2, rfl, -⟩ := hr2
  clear hb2
  go_wp2_with fail
  refine (render_calls _ _ [36, 32] [97, 98] 1 24 80 false w2 (HL.out.step HB2.out) HR12.out HR2.out HCK.out).mono ?_
  rw [live_render]
  rintro e w3 ⟨v3, rfl, ho3, hb3⟩
  have HO3 := Hd.mk (show OR w3 w2.heap.size v3 liveRows from ho3)
  have HB3 := Hd.mk (below_next HB2.out hb3)
  obtain ⟨A3, c3, rfl⟩ := ho3.slice
  clear ho3 hb3
  have HRR := Hd.mk HO3.out.rr
  have HTX := Hd.mk (show textF liveRows = [⟨#[36, 32, 97, 98]⟩] from live_text)
  have HEQ : Hd (textsEq [⟨#[36, 32, 97, 98]⟩] [⟨#[36, 32, 97, 98]⟩] = true) := ⟨by kernel_rfl⟩
  have hgd : Tryd.prog.eqGuardType Tryd.prog.depth 27 = false := by kernel_rfl
  have hsp : ∀ w : World, (binOp .eql 27 (.agg #[.int .i64 0, .int .i64 3]) (.agg #[.int .i64 0, .int .i64 3])).run Tryd.prog w = .ok (.bool true) w := fun w => by rw [eql27]; rfl
  go_wp2_with fail
  have HX := Hd.mk (heap_alloc_new w3 (.cells #[.slice A3 1 c3, .int .i64 0, .int .i64 3, .int .i64 0] 29))
  have HBX := Hd.mk (below_next HB3.out (below_alloc1 w3 (.cells #[.slice A3 1 c3, .int .i64 0, .int .i64 3, .int .i64 0] 29)))
  have HRX := Hd.mk (show RR _ (.slice A3 1 c3) liveRows from HRR.out.below (below_alloc1 w3 (.cells #[.slice A3 1 c3, .int .i64 0, .int .i64 3, .int .i64 0] 29)))
  generalize w3.alloc (.cells #[.slice A3 1 c3, .int .i64 0, .int .i64 3, .int .i64 0] 29) = w4 at *
  refine (text_calls _ liveRows 0 3 0 w4 HRX.out (by decide) live_small).mono ?_
  rw [HTX.out]
  rintro e w5 ⟨v5, rfl, ho5, hb5⟩
  have HB5 := Hd.mk (below_next HBX.out hb5)
  have HX5 := Hd.mk (box_touch HX.out (Touch.of_below (S := fun _ => False) hb5) id)
  have HR5 := Hd.mk (own_rd ho5)
  obtain ⟨A5, c5, rfl⟩ := own_slice ho5
  clear ho5 hb5
  have bx := below_alloc1 w5 (.cells #[.string ⟨#[36, 32, 97, 98]⟩] 9)
  have HB6 := Hd.mk (below_next HB5.out bx)
  have HX6 := Hd.mk (box_touch HX5.out (Touch.of_below (S := fun _ => False) bx) id)
  have HR6 := Hd.mk (Rd.below HR5.out bx)
  have HRL := Hd.mk (rd_lit w5 #[.string ⟨#[36, 32, 97, 98]⟩] 9 1 (by unfold maxLen; omega))
  clear bx
  go_wp2_with fail
  generalize w5.alloc (.cells #[.string ⟨#[36, 32, 97, 98]⟩] 9) = w6 at *
  refine (equalTexts_calls _ _ [⟨#[36, 32, 97, 98]⟩] [⟨#[36, 32, 97, 98]⟩] w6 (by exact HR6.out) (by exact HRL.out)).mono ?_
  rw [HEQ.out]
  rintro e w7 ⟨rfl, hb7⟩
  have HB7 := Hd.mk (below_next HB6.out hb7)
  have hx7 := box_touch HX6.out (Touch.of_below (S := fun _ => False) hb7) id
  have b0 : w7.cell? ⟨w3.heap.size, 0, none⟩ = some (.slice A3 1 c3) := by rw [blk_cell hx7]; rfl
  have b1 : w7.cell? ⟨w3.heap.size, 1, none⟩ = some (.int .i64 0) := by rw [blk_cell hx7]; rfl
  have b2 : w7.cell? ⟨w3.heap.size, 2, none⟩ = some (.int .i64 3) := by rw [blk_cell hx7]; rfl
  have b3 : w7.cell? ⟨w3.heap.size, 3, none⟩ = some (.int .i64 0) := by rw [blk_cell hx7]; rfl
  clear hx7 hb7
  go_wp2_with fail
  exact bodyPost_ret (v := .bool true) (by simp [results, Tryd.results11, go_sem]) rfl ⟨rfl, HB7.out⟩
end Go.Proofs.YthpfhlhoekgpjaaDoor
