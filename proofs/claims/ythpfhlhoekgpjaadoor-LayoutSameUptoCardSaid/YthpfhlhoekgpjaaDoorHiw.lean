/- LayoutHides: the plain law and the walk. -/
import Derived.Test.YthpfhlhoekgpjaaDoorSa
import Derived.Test.YthpfhlhoekgpjaaDoorFia
import Derived.Test.YthpfhlhoekgpjaaDoorRb
import Derived.Test.YthpfhlhoekgpjaaDoorY
import Derived.Test.YthpfhlhoekgpjaaDoorFw
set_option linter.unusedVariables false
set_option linter.unusedSimpArgs false
namespace Go.Proofs.YthpfhlhoekgpjaaDoor
open Go.RowKit

theorem seen_clean (l : List Int) : ∀ r ∈ seenF l, r ≠ 1 ∧ r ≠ 2 := by
  have : ∀ (l : List Int) (s : List Int × Bool), (∀ r ∈ s.1, r ≠ 1 ∧ r ≠ 2) → ∀ r ∈ (l.foldl seenStep s).1, r ≠ 1 ∧ r ≠ 2 := by
    intro l
    induction l with
    | nil => intro s h; exact h
    | cons x l ih =>
      intro s h
      refine ih _ ?_
      unfold seenStep
      split
      · exact h
      · split
        · exact h
        · split
          · exact h
          · intro r hr
            rcases List.mem_append.1 hr with hr | hr
            · exact h r hr
            · rw [List.mem_singleton.1 hr]; exact ⟨‹_›, ‹_›⟩
  exact this l ([], false) (by simp)
theorem seen_keep (l : List Int) : ∀ (o : List Int), (∀ r ∈ l, r ≠ 1 ∧ r ≠ 2) → l.foldl seenStep (o, false) = (o ++ l, false) := by
  induction l with
  | nil => intro o _; simp
  | cons x l ih =>
    intro o h
    obtain ⟨h1, h2⟩ := h x (List.mem_cons_self ..)
    have hs : seenStep (o, false) x = (o ++ [x], false) := by simp [seenStep, h1, h2]
    rw [List.foldl_cons, hs, ih _ (fun r hr => h r (List.mem_cons_of_mem _ hr))]
    simp
theorem seen_seen (l : List Int) : seenF (seenF l) = seenF l := by
  have := seen_keep (seenF l) [] (seen_clean l)
  change ((seenF l).foldl seenStep ([], false)).1 = seenF l
  rw [this]
  simp
theorem render_seen (prompt line : List Int) (point rows cols : Nat) (across : Bool) : renderF (seenF prompt) line point rows cols across = renderF prompt line point rows cols across := by
  unfold renderF rowsF
  rw [seen_seen]
theorem seenF_len (l : List Int) : (seenF l).length ≤ l.length := by
  have := seen_len l ([], false)
  simpa [seenF] using this
theorem rowsEqB_refl (l : List (List Cell)) : rowsEqB l l = true := by
  unfold rowsEqB
  induction l with
  | nil => rfl
  | cons c l ih => rw [eqAll, cellsEqB_refl, ih]; rfl
theorem sameF_refl (xs : List (List Cell)) (r c : Int) : sameF xs xs r c r c = true := by simp [sameF, rowsEqB_refl]
theorem six_set0 {w : World} {b : Nat} {v0 v1 v2 v3 v4 v5 u : Value} {T : TypeId} (h : w.heap[b]? = some (.cells #[v0, v1, v2, v3, v4, v5] T (0, 0))) : (w.setCell ⟨b, 0, none⟩ u).heap[b]? = some (.cells #[u, v1, v2, v3, v4, v5] T (0, 0)) := by
  simp [World.setCell, Array.getElem?_modify, h]

set_option maxRecDepth 100000 in
set_option maxHeartbeats 4000000 in
theorem hides_calls (pv lv : Value) (prompt line : List Int) (point rows cols : Int) (across : Bool) (w : World) (hL : Laid w) (hp : RI w pv prompt) (hl : RI w lv line) :
    Calls Tryd.prog 9 #[.agg #[pv, lv, .int .i64 point, .int .i64 rows, .int .i64 cols, .bool across]] w fun e w' => e = .returned (.bool true) ∧ Below w.heap.size w w' := by
  have HPV := Hd.mk hp
  have HLV := Hd.mk hl
  have HL := Hd.mk hL
  obtain ⟨Ap, cp, rfl, p1, p2, -⟩ := hp
  obtain ⟨Al, cl, rfl, l1, l2, -⟩ := hl
  have hp3 : prompt.length ≤ 9223372036854775807 := Nat.le_trans p1 (by unfold maxLen at p2; omega)
  have hl3 : line.length ≤ 9223372036854775807 := Nat.le_trans l1 (by unfold maxLen at l2; omega)
  clear hL p1 p2 l1 l2
  have HB0 := Hd.mk (below_alloc1 w (.cells #[.slice Ap prompt.length cp, .slice Al line.length cl, .int .i64 point, .int .i64 rows, .int .i64 cols, .bool across] 24))
  have HX0 := Hd.mk (heap_alloc_new w (.cells #[.slice Ap prompt.length cp, .slice Al line.length cl, .int .i64 point, .int .i64 rows, .int .i64 cols, .bool across] 24))
  have HLI := Hd.mk (fun wx (hb : Below w.heap.size w wx) => live_calls wx (HL.out.step hb))
  have HRC := Hd.mk (fun wx => rcheck_calls Ap Al prompt.length line.length cp cl point rows cols across wx hp3 hl3)
  go_enter Tryd.func9, Tryd.ntmps9
  go_wp2_with fail
  generalize w.alloc (.cells #[.slice Ap prompt.length cp, .slice Al line.length cl, .int .i64 point, .int .i64 rows, .int .i64 cols, .bool across] 24) = w0 at *
  by_cases hck : checkF prompt.length line.length point rows cols = 0
  · have HCK := Hd.mk hck
    rw [hck] at HRC
    clear hck
    obtain ⟨hr1, hr2, hc1, hc2, hpn, hln, hq0, hq1⟩ := checkF_ok HCK.out
    obtain ⟨pn, rfl⟩ := Int.eq_ofNat_of_zero_le hq0
    obtain ⟨rn, rfl⟩ := Int.eq_ofNat_of_zero_le (show 0 ≤ rows by omega)
    obtain ⟨cn, rfl⟩ := Int.eq_ofNat_of_zero_le (show 0 ≤ cols by omega)
    have HLAW := Hd.mk (fits_law prompt line pn rn cn across (by omega) (by omega))
    have hsl := seenF_len prompt
    have HR2 := Hd.mk (fun (v : Value) (wx : World) (hb : Below w.heap.size w wx) (hi : RI wx v (seenF prompt)) => render_calls v (.slice Al line.length cl) (seenF prompt) line pn rn cn across wx (HL.out.step hb) hi (Rd.below HLV.out hb) (checkF_mk (by omega)))
    rw [render_seen] at HR2
    refine (render_calls _ _ prompt line pn rn cn across w0 (HL.out.step HB0.out) (Rd.below HPV.out HB0.out) (Rd.below HLV.out HB0.out) HCK.out).mono ?_
    generalize renderF prompt line pn rn cn across = R at *
    obtain ⟨RR, rr, rc, ra⟩ := R
    obtain ⟨f1, f2, f3, f4, f5⟩ := HLAW.out
    clear HLAW
    have HF := Hd.mk (fun r hr => (f5 r hr).1)
    clear f5
    simp only at f1 f2 f3 f4
    have HSL : Hd (∀ l ∈ RR, l.length * 32 ≤ 140737488355328) := ⟨fun l hl => by have := HF.out l hl; omega⟩
    have hRl : RR.length * 24 ≤ 140737488355328 := by omega
    rintro e w1 ⟨v1, rfl, ho1, hb1⟩
    have HO1 := Hd.mk (show OR w1 w0.heap.size v1 RR from ho1)
    have HB1 := Hd.mk (below_next HB0.out hb1)
    have HX1 := Hd.mk (box_touch HX0.out (Touch.of_below (S := fun _ => False) hb1) id)
    obtain ⟨A1, c1, rfl⟩ := HO1.out.slice
    clear ho1 hb1
    go_upto_region 2 with (fail)
    have HX2 := Hd.mk (heap_at (x := .cells #[.slice A1 RR.length c1, .int .i64 rr, .int .i64 rc, .int .i64 ra] 29) HX1.out)
    have HY2 := Hd.mk (heap_alloc_new w1 (.cells #[.slice A1 RR.length c1, .int .i64 rr, .int .i64 rc, .int .i64 ra] 29))
    have HO2 := Hd.mk (HO1.out.below (below_alloc1 w1 (.cells #[.slice A1 RR.length c1, .int .i64 rr, .int .i64 rc, .int .i64 ra] 29)))
    have HB2 := Hd.mk (below_next HB1.out (below_alloc1 w1 (.cells #[.slice A1 RR.length c1, .int .i64 rr, .int .i64 rc, .int .i64 ra] 29)))
    have hfb : w.heap.size < w1.heap.size := box_lt HX1.out
    generalize w1.alloc (.cells #[.slice A1 RR.length c1, .int .i64 rr, .int .i64 rc, .int .i64 ra] 29) = w2 at *
    generalize w1.heap.size = fb at *
    have y0 : w2.cell? ⟨w.heap.size, 0, none⟩ = some (.slice Ap prompt.length cp) := by rw [blk_cell HX2.out]; rfl
    have y1 : w2.cell? ⟨w.heap.size, 1, none⟩ = some (.slice Al line.length cl) := by rw [blk_cell HX2.out]; rfl
    have y2 : w2.cell? ⟨w.heap.size, 2, none⟩ = some (.int .i64 pn) := by rw [blk_cell HX2.out]; rfl
    have y3 : w2.cell? ⟨w.heap.size, 3, none⟩ = some (.int .i64 rn) := by rw [blk_cell HX2.out]; rfl
    have y4 : w2.cell? ⟨w.heap.size, 4, none⟩ = some (.int .i64 cn) := by rw [blk_cell HX2.out]; rfl
    have y5 : w2.cell? ⟨w.heap.size, 5, none⟩ = some (.bool across) := by rw [blk_cell HX2.out]; rfl
    go_wp2_with fail
    refine (HRC.out _).mono ?_
    rintro e w3 ⟨rfl, hb3⟩
    have HB3 := Hd.mk (below_next HB2.out hb3)
    have HB23 := Hd.mk hb3
    clear hb3 y0 y1 y2 y3 y4 y5
    go_wp2_with fail
    refine (HLI.out _ HB3.out).mono ?_
    rintro e w4 ⟨rfl, hb4⟩
    have HB24 := Hd.mk (below_next HB23.out hb4)
    have HB4 := Hd.mk (below_next HB2.out HB24.out)
    have HX4 := Hd.mk (box_touch HX2.out (Touch.of_below (S := fun _ => False) HB24.out) id)
    have HY4 := Hd.mk (box_touch HY2.out (Touch.of_below (S := fun _ => False) HB24.out) id)
    have HO4 := Hd.mk (HO2.out.below HB24.out)
    clear hb4
    have y0 : w4.cell? ⟨w.heap.size, 0, none⟩ = some (.slice Ap prompt.length cp) := by rw [blk_cell HX4.out]; rfl
    go_wp2_with fail
    refine (seen_calls _ prompt w4 (Rd.below HPV.out HB4.out) (by omega)).mono ?_
    rintro e w5 ⟨v5, rfl, ho5, hb5⟩
    have HI5 := Hd.mk ho5
    have HB5 := Hd.mk (below_next HB4.out hb5)
    have HX5 := Hd.mk (box_touch HX4.out (Touch.of_below (S := fun _ => False) hb5) id)
    have HY5 := Hd.mk (box_touch HY4.out (Touch.of_below (S := fun _ => False) hb5) id)
    have HO5 := Hd.mk (HO4.out.below hb5)
    have hz4 := HB4.out.size
    have hk4 := box_lt HX4.out
    obtain ⟨A5, c5, rfl⟩ := own_slice ho5
    clear ho5 hb5 y0
    have y0 : w5.cell? ⟨w.heap.size, 0, none⟩ = some (.slice Ap prompt.length cp) := by rw [blk_cell HX5.out]; rfl
    have y1 : w5.cell? ⟨w.heap.size, 1, none⟩ = some (.slice Al line.length cl) := by rw [blk_cell HX5.out]; rfl
    have y2 : w5.cell? ⟨w.heap.size, 2, none⟩ = some (.int .i64 pn) := by rw [blk_cell HX5.out]; rfl
    have y3 : w5.cell? ⟨w.heap.size, 3, none⟩ = some (.int .i64 rn) := by rw [blk_cell HX5.out]; rfl
    have y4 : w5.cell? ⟨w.heap.size, 4, none⟩ = some (.int .i64 cn) := by rw [blk_cell HX5.out]; rfl
    have y5 : w5.cell? ⟨w.heap.size, 5, none⟩ = some (.bool across) := by rw [blk_cell HX5.out]; rfl
    have q0 : w5.frozen? ⟨w.heap.size, 0, none⟩ = false := blk_froz HX5.out _
    go_wp2_with fail
    clear y0 y1 y2 y3 y4 y5 q0
    have hT := (Touch.refl (fun j => j = w.heap.size) w5).setCell ⟨w.heap.size, 0, none⟩ (.slice A5 (seenF prompt).length c5) rfl
    have HB6 := Hd.mk (HB5.out.setCell (p := ⟨w.heap.size, 0, none⟩) (Nat.le_refl _) (.slice A5 (seenF prompt).length c5))
    have HO6 := Hd.mk (HO5.out.touch hT HX5.out (by decide) (by decide))
    have HY6 := Hd.mk (box_touch HY5.out hT (by omega))
    have HRI := Hd.mk (OI.ri (show OI (w5.setCell ⟨w.heap.size, 0, none⟩ (.slice A5 (seenF prompt).length c5)) w4.heap.size _ (seenF prompt) from Touch.own HI5.out hT (fun k hk e => by have := (own_lt HI5.out k hk).1; omega)))
    clear hT
    generalize w5.setCell ⟨w.heap.size, 0, none⟩ (.slice A5 (seenF prompt).length c5) = w6 at *
    refine (HR2.out _ w6 HB6.out HRI.out).mono ?_
    rintro e w7 ⟨v7, rfl, ho7, hb7⟩
    have hb8 := below_next hb7 (below_alloc1 w7 (.cells #[v7, .int .i64 rr, .int .i64 rc, .int .i64 ra] 29))
    have HP8 := Hd.mk ((show OR w7 w6.heap.size v7 RR from ho7).below (below_alloc1 w7 (.cells #[v7, .int .i64 rr, .int .i64 rc, .int .i64 ra] 29)))
    have HB8 := Hd.mk (below_next HB6.out hb8)
    have HO8 := Hd.mk (HO6.out.below hb8)
    have HY8 := Hd.mk (box_touch HY6.out (Touch.of_below (S := fun _ => False) hb8) id)
    have HZ8 := Hd.mk (heap_alloc_new w7 (.cells #[v7, .int .i64 rr, .int .i64 rc, .int .i64 ra] 29))
    obtain ⟨A7, c7, rfl⟩ := HP8.out.slice
    clear ho7 hb7 hb8
    go_upto_region 8 with (fail)
    generalize w7.alloc (.cells #[.slice A7 RR.length c7, .int .i64 rr, .int .i64 rc, .int .i64 ra] 29) = w8 at *
    generalize w7.heap.size = gb at *
    have x0 : w8.cell? ⟨fb, 0, none⟩ = some (.slice A1 RR.length c1) := by rw [blk_cell HY8.out]; rfl
    have x1 : w8.cell? ⟨fb, 1, none⟩ = some (.int .i64 rr) := by rw [blk_cell HY8.out]; rfl
    have x2 : w8.cell? ⟨fb, 2, none⟩ = some (.int .i64 rc) := by rw [blk_cell HY8.out]; rfl
    have x3 : w8.cell? ⟨fb, 3, none⟩ = some (.int .i64 ra) := by rw [blk_cell HY8.out]; rfl
    have z0 : w8.cell? ⟨gb, 0, none⟩ = some (.slice A7 RR.length c7) := by rw [blk_cell HZ8.out]; rfl
    have z1 : w8.cell? ⟨gb, 1, none⟩ = some (.int .i64 rr) := by rw [blk_cell HZ8.out]; rfl
    have z2 : w8.cell? ⟨gb, 2, none⟩ = some (.int .i64 rc) := by rw [blk_cell HZ8.out]; rfl
    have z3 : w8.cell? ⟨gb, 3, none⟩ = some (.int .i64 ra) := by rw [blk_cell HZ8.out]; rfl
    go_wp2_with fail
    refine (same_calls _ _ RR RR rr rc ra rr rc ra w8 HO8.out.rr HP8.out.rr hRl hRl HSL.out HSL.out).mono ?_
    rw [sameF_refl]
    rintro e w9 ⟨rfl, hb9⟩
    have HB9 := Hd.mk (below_next HB8.out hb9)
    have u3 := below_cell hb9 x3
    have t3 := below_cell hb9 z3
    clear hb9 x0 x1 x2 x3 z0 z1 z2 z3
    go_wp2_with fail
    exact bodyPost_ret (v := .bool true) (by simp [results, Tryd.results9, go_sem]) rfl ⟨rfl, HB9.out⟩
  · have HCK := Hd.mk hck
    have hckb : (checkF prompt.length line.length point rows cols != 0) = true := by simpa using hck
    refine (render_bad_calls Ap Al prompt.length line.length cp cl point rows cols across w0 hp3 hl3 HCK.out).mono ?_
    clear hck
    rintro e w1 ⟨rfl, hb1⟩
    have hb2 := below_next hb1 (below_alloc1 w1 (.cells #[.slice none 0 0, .int .i64 0, .int .i64 0, .int .i64 0] 29))
    have HB1 := Hd.mk (below_next HB0.out hb2)
    have HX1 := Hd.mk (box_touch HX0.out (Touch.of_below (S := fun _ => False) hb2) id)
    clear hb1 hb2
    have hrb : (checkF prompt.length line.length point rows cols != checkF prompt.length line.length point rows cols) = false := by simp
    generalize checkF prompt.length line.length point rows cols = ck at *
    go_upto_region 2 with (fail)
    generalize w1.alloc (.cells #[.slice none 0 0, .int .i64 0, .int .i64 0, .int .i64 0] 29) = w2 at *
    have y0 : w2.cell? ⟨w.heap.size, 0, none⟩ = some (.slice Ap prompt.length cp) := by rw [blk_cell HX1.out]; rfl
    have y1 : w2.cell? ⟨w.heap.size, 1, none⟩ = some (.slice Al line.length cl) := by rw [blk_cell HX1.out]; rfl
    have y2 : w2.cell? ⟨w.heap.size, 2, none⟩ = some (.int .i64 point) := by rw [blk_cell HX1.out]; rfl
    have y3 : w2.cell? ⟨w.heap.size, 3, none⟩ = some (.int .i64 rows) := by rw [blk_cell HX1.out]; rfl
    have y4 : w2.cell? ⟨w.heap.size, 4, none⟩ = some (.int .i64 cols) := by rw [blk_cell HX1.out]; rfl
    have y5 : w2.cell? ⟨w.heap.size, 5, none⟩ = some (.bool across) := by rw [blk_cell HX1.out]; rfl
    go_wp2_with fail
    refine (HRC.out _).mono ?_
    rintro e w4 ⟨rfl, hb4⟩
    have HB4 := Hd.mk (below_next HB1.out hb4)
    clear y0 y1 y2 y3 y4 y5 hb4
    go_wp2_with fail
    refine (HLI.out _ HB4.out).mono ?_
    rintro e w3 ⟨rfl, hb3⟩
    have HB3 := Hd.mk (below_next HB4.out hb3)
    clear hb3
    go_wp2_with fail
    exact bodyPost_ret (v := .bool true) (by simp [results, Tryd.results9, go_sem]) rfl ⟨rfl, HB3.out⟩
end Go.Proofs.YthpfhlhoekgpjaaDoor
