/- LayoutFits: the walk. -/
import Derived.Test.YthpfhlhoekgpjaaDoorFia
import Derived.Test.YthpfhlhoekgpjaaDoorRb
import Derived.Test.YthpfhlhoekgpjaaDoorY
set_option linter.unusedVariables false
set_option linter.unusedSimpArgs false
namespace Go.Proofs.YthpfhlhoekgpjaaDoor
open Go.RowKit

set_option maxRecDepth 100000 in
set_option maxHeartbeats 4000000 in
theorem fits_calls (pv lv : Value) (prompt line : List Int) (point rows cols : Int) (across : Bool) (w : World) (hL : Laid w) (hp : RI w pv prompt) (hl : RI w lv line) :
    Calls Tryd.prog 3 #[.agg #[pv, lv, .int .i64 point, .int .i64 rows, .int .i64 cols, .bool across]] w fun e w' => e = .returned (.bool true) ∧ Below w.heap.size w w' := by
  have HPV := Hd.mk hp
  have HLV := Hd.mk hl
  have HL := Hd.mk hL
  obtain ⟨Ap, cp, rfl, p1, p2, -⟩ := hp
  obtain ⟨Al, cl, rfl, l1, l2, -⟩ := hl
  have hp3 : prompt.length ≤ 9223372036854775807 := Nat.le_trans p1 (by unfold maxLen at p2; omega)
  have hl3 : line.length ≤ 9223372036854775807 := Nat.le_trans l1 (by unfold maxLen at l2; omega)
  clear hL p1 p2 l1 l2
  have HB0 := Hd.mk (below_alloc1 w (.cells #[.slice Ap prompt.length cp, .slice Al line.length cl, .int .i64 point, .int .i64 rows, .int .i64 cols, .bool across] 24))
  have HX0 := Hd.mk (heap_alloc_new w (.cells #[.slice Ap prompt.length cp, .slice Al line.length cl, .int .i64 point, .int .i64 rows, .int .i64 cols, .bool across] 24))
  have HLI := Hd.mk (fun wx (hb : Below w.heap.size w wx) => live_calls wx (HL.out.step hb))
  go_enter Tryd.func3, Tryd.ntmps3
  go_wp2_with fail
  generalize w.alloc (.cells #[.slice Ap prompt.length cp, .slice Al line.length cl, .int .i64 point, .int .i64 rows, .int .i64 cols, .bool across] 24) = w0 at *
  by_cases hck : checkF prompt.length line.length point rows cols = 0
  · have HCK := Hd.mk hck
    clear hck
    obtain ⟨hr1, hr2, hc1, hc2, hpn, hln, hq0, hq1⟩ := checkF_ok HCK.out
    obtain ⟨pn, rfl⟩ := Int.eq_ofNat_of_zero_le hq0
    obtain ⟨rn, rfl⟩ := Int.eq_ofNat_of_zero_le (show 0 ≤ rows by omega)
    obtain ⟨cn, rfl⟩ := Int.eq_ofNat_of_zero_le (show 0 ≤ cols by omega)
    have HLAW := Hd.mk (fits_law prompt line pn rn cn across (by omega) (by omega))
    refine (render_calls _ _ prompt line pn rn cn across w0 (HL.out.step HB0.out) (Rd.below HPV.out HB0.out) (Rd.below HLV.out HB0.out) HCK.out).mono ?_
    generalize renderF prompt line pn rn cn across = R at *
    obtain ⟨RR, rr, rc, ra⟩ := R
    obtain ⟨f1, f2, f3, f4, f5⟩ := HLAW.out
    clear HLAW
    have HF := Hd.mk f5
    clear f5
    simp only at f1 f2 f3 f4
    rintro e w1 ⟨v1, rfl, ho1, hb1⟩
    have HO1 := Hd.mk (show OR w1 w0.heap.size v1 RR from ho1)
    have HB1 := Hd.mk (below_next HB0.out hb1)
    have HX1 := Hd.mk (box_touch HX0.out (Touch.of_below (S := fun _ => False) hb1) id)
    obtain ⟨A1, c1, rfl⟩ := HO1.out.slice
    clear ho1 hb1
    go_upto_region 4 with (fail)
    have HX2 := Hd.mk (heap_at (x := .cells #[.slice A1 RR.length c1, .int .i64 rr, .int .i64 rc, .int .i64 ra] 29) HX1.out)
    have HY2 := Hd.mk (heap_alloc_new w1 (.cells #[.slice A1 RR.length c1, .int .i64 rr, .int .i64 rc, .int .i64 ra] 29))
    have HO2 := Hd.mk (HO1.out.below (below_alloc1 w1 (.cells #[.slice A1 RR.length c1, .int .i64 rr, .int .i64 rc, .int .i64 ra] 29)))
    have HB2 := Hd.mk (below_next HB1.out (below_alloc1 w1 (.cells #[.slice A1 RR.length c1, .int .i64 rr, .int .i64 rc, .int .i64 ra] 29)))
    generalize w1.alloc (.cells #[.slice A1 RR.length c1, .int .i64 rr, .int .i64 rc, .int .i64 ra] 29) = w2 at *
    have x0 : w2.cell? ⟨w1.heap.size, 0, none⟩ = some (.slice A1 RR.length c1) := by rw [blk_cell HY2.out]; rfl
    have x1 : w2.cell? ⟨w1.heap.size, 1, none⟩ = some (.int .i64 rr) := by rw [blk_cell HY2.out]; rfl
    have x2 : w2.cell? ⟨w1.heap.size, 2, none⟩ = some (.int .i64 rc) := by rw [blk_cell HY2.out]; rfl
    have y3 : w2.cell? ⟨w.heap.size, 3, none⟩ = some (.int .i64 rn) := by rw [blk_cell HX2.out]; rfl
    have y4 : w2.cell? ⟨w.heap.size, 4, none⟩ = some (.int .i64 cn) := by rw [blk_cell HX2.out]; rfl
    have e1 : decide ((RR.length : Int) < 1) = false := by simp; omega
    have e2 : decide (rn < RR.length) = false := by simp; omega
    have e3 : decide ((rr : Int) < 0) = false := by simp
    have e4 : decide (RR.length ≤ rr) = false := by simp; omega
    have e5 : decide ((rc : Int) < 0) = false := by simp
    have e6 : decide (cn ≤ rc) = false := by simp; omega
    go_wp2_with fail
    clear x1 x2 y3 y4 x0 e1 e2 e3 e4 e5 e6
    go_loopg [67] RR.length (fun gk i wr => ∃ k : Nat, k + gk = RR.length ∧ i = .int .i64 k ∧ Hd (Below w2.heap.size w2 wr))
    case atStart => exact ⟨0, by omega, rfl, ⟨Below.refl _ _⟩⟩
    case round =>
      obtain ⟨k, hk, rfl, HBB⟩ := hrel
      have HBW := Hd.mk (below_next HB2.out HBB.out)
      have HXW := Hd.mk (box_touch HX2.out (Touch.of_below (S := fun _ => False) HBB.out) id)
      by_cases hlt : k < RR.length
      · obtain ⟨g, cap, A3, c3, hv, -, -, hcell, HR⟩ := OR.at_ (HO2.out.below HBB.out) hlt
        injection hv with hv1 hv2 hv3
        clear hv2
        subst hv1 hv3
        obtain ⟨fw, fl⟩ := HF.out RR[k] (List.getElem_mem _)
        have HFL := Hd.mk fl
        clear fl
        generalize RR[k] = row at *
        have y4 : wr.cell? ⟨w.heap.size, 4, none⟩ = some (.int .i64 cn) := by rw [blk_cell HXW.out]; rfl
        obtain ⟨wo, rfl⟩ : ∃ x, x = wr := ⟨_, rfl⟩
        obtain ⟨go, hgo⟩ : ∃ n, n = gk := ⟨_, rfl⟩
        subst hgo
        have e1 : decide (cn < row.length) = false := by simp; omega
        go_wp2_with fail
        clear hcell y4 e1
        go_loopg [78] row.length (fun gk i wr => ∃ j : Nat, j + gk = row.length ∧ i = .int .i64 j ∧ Hd (Below wo.heap.size wo wr))
        case atStart => exact ⟨0, by omega, rfl, ⟨Below.refl _ _⟩⟩
        case round =>
          obtain ⟨j, hj, rfl, HBI⟩ := hrel
          by_cases hjt : j < row.length
          · have hgk : 0 < gk := by omega
            obtain ⟨b, o, c', hv, -, -, hbl, hc⟩ := RC.at_ (OC.rc (HR.out.below HBI.out)) hjt
            injection hv with hv1 hv2 hv3
            clear hv2
            subst hv1 hv3
            obtain ⟨g0, g1, g2⟩ := hc j hjt
            have HC := Hd.mk hc
            clear hc
            have HLB := Hd.mk (HFL.out j hjt)
            have HW := Hd.mk (widAt_get hjt)
            by_cases d2 : row[j].wd = 2
            · have hq : j + 1 < row.length ∧ widAt row (j + 1) = 0 := by
                have := HLB.out
                simp [loneB, HW.out, d2] at this
                exact ⟨by omega, this.2⟩
              obtain ⟨hq1', hq2'⟩ := hq
              have q1 := (HC.out (j + 1) hq1').2.1
              have d0 : row[j + 1].wd = 0 := by rw [← widAt_get hq1']; exact hq2'
              have d2b : (row[j].wd == 2) = true := beq_iff_eq.2 d2
              have d2c : (row[j].wd == 0) = false := by simp [d2]
              have d0b : (row[j + 1].wd != 0) = false := by simp [d0]
              clear d2 d0 hq2'
              go_wp2_with fail
              go_roundg (gk - 1)
              case measure => omega
              case rel => exact ⟨j + 1, by omega, by go_num, ⟨below_next HBI.out (below_alloc1 wr _)⟩⟩
            · have d2b : (row[j].wd == 2) = false := beq_eq_false_iff_ne.2 d2
              by_cases d0 : row[j].wd = 0
              · have hq : j ≠ 0 ∧ widAt row (j - 1) = 2 := by
                  have := HLB.out
                  simp [loneB, HW.out, d0] at this
                  exact this
                obtain ⟨hq1', hq2'⟩ := hq
                have hj1 : j - 1 < row.length := by omega
                have q1 := (HC.out (j - 1) hj1).2.1
                have dp : row[j - 1].wd = 2 := by rw [← widAt_get hj1]; exact hq2'
                have d0b : (row[j].wd == 0) = true := beq_iff_eq.2 d0
                have dkb : ((j : Int) == 0) = false := by simpa using hq1'
                have dpb : (row[j - 1].wd != 2) = false := by simp [dp]
                clear d2 d0 hq2' dp
                go_wp2_with fail
                go_roundg (gk - 1)
                case measure => omega
                case rel => exact ⟨j + 1, by omega, by go_num, ⟨below_next HBI.out (below_alloc1 wr _)⟩⟩
              · have d0b : (row[j].wd == 0) = false := beq_eq_false_iff_ne.2 d0
                clear d2 d0
                go_wp2_with fail
                go_roundg (gk - 1)
                case measure => omega
                case rel => exact ⟨j + 1, by omega, by go_num, ⟨below_next HBI.out (below_alloc1 wr _)⟩⟩
          · go_wp2_with fail
            go_roundg (go - 1)
            case measure => omega
            case rel => exact ⟨k + 1, by omega, by go_num, ⟨below_next HBB.out HBI.out⟩⟩
      · go_wp2_with (go_at_call 11; refine (HLI.out _ HBW.out).mono ?_; rintro e w3 ⟨rfl, hb3⟩)
        exact bodyPost_ret (v := .bool true) (by simp [results, Tryd.results3, go_sem]) rfl ⟨rfl, below_next HBW.out hb3⟩
  · have HCK := Hd.mk hck
    have hckb : (checkF prompt.length line.length point rows cols != 0) = true := by simpa using hck
    refine (render_bad_calls Ap Al prompt.length line.length cp cl point rows cols across w0 hp3 hl3 HCK.out).mono ?_
    clear hck
    rintro e w1 ⟨rfl, hb1⟩
    have hb2 := below_next hb1 (below_alloc1 w1 (.cells #[.slice none 0 0, .int .i64 0, .int .i64 0, .int .i64 0] 29))
    have HB1 := Hd.mk (below_next HB0.out hb2)
    have HX1 := Hd.mk (box_touch HX0.out (Touch.of_below (S := fun _ => False) hb2) id)
    have HRC := Hd.mk (fun wx => rcheck_calls Ap Al prompt.length line.length cp cl point rows cols across wx hp3 hl3)
    clear hb1 hb2
    have hrb : (checkF prompt.length line.length point rows cols == checkF prompt.length line.length point rows cols) = true := by simp
    generalize checkF prompt.length line.length point rows cols = ck at *
    go_upto_region 3 with (fail)
    generalize w1.alloc (.cells #[.slice none 0 0, .int .i64 0, .int .i64 0, .int .i64 0] 29) = w2 at *
    go_wp2_with fail
    refine (HLI.out _ HB1.out).mono ?_
    rintro e w3 ⟨rfl, hb3⟩
    have HB3 := Hd.mk (below_next HB1.out hb3)
    have HX3 := Hd.mk (box_touch HX1.out (Touch.of_below (S := fun _ => False) hb3) id)
    clear hb3
    have y0 : w3.cell? ⟨w.heap.size, 0, none⟩ = some (.slice Ap prompt.length cp) := by rw [blk_cell HX3.out]; rfl
    have y1 : w3.cell? ⟨w.heap.size, 1, none⟩ = some (.slice Al line.length cl) := by rw [blk_cell HX3.out]; rfl
    have y2 : w3.cell? ⟨w.heap.size, 2, none⟩ = some (.int .i64 point) := by rw [blk_cell HX3.out]; rfl
    have y3 : w3.cell? ⟨w.heap.size, 3, none⟩ = some (.int .i64 rows) := by rw [blk_cell HX3.out]; rfl
    have y4 : w3.cell? ⟨w.heap.size, 4, none⟩ = some (.int .i64 cols) := by rw [blk_cell HX3.out]; rfl
    have y5 : w3.cell? ⟨w.heap.size, 5, none⟩ = some (.bool across) := by rw [blk_cell HX3.out]; rfl
    go_wp2_with fail
    refine (HRC.out _).mono ?_
    rintro e w4 ⟨rfl, hb4⟩
    clear y0 y1 y2 y3 y4 y5
    go_wp2_with fail
    exact bodyPost_ret (v := .bool true) (by simp [results, Tryd.results3, go_sem]) rfl ⟨rfl, below_next HB3.out hb4⟩
end Go.Proofs.YthpfhlhoekgpjaaDoor
