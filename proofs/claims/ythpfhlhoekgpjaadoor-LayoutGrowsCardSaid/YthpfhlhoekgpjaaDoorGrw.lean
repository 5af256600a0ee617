/- LayoutGrows: the walk. -/
import Derived.Test.YthpfhlhoekgpjaaDoorGra
import Derived.Test.YthpfhlhoekgpjaaDoorFw
set_option linter.unusedVariables false
set_option linter.unusedSimpArgs false
namespace Go.Proofs.YthpfhlhoekgpjaaDoor
open Go.RowKit

def growB (line : List Int) (r : Int) : Bool := decide (1024 ≤ line.length) || (decide (widthF r = 0) && !controlB r)
theorem growB_false {line : List Int} {r : Int} (h : growB line r = false) : line.length < 1024 ∧ (widthF r ≠ 0 ∨ controlB r = true) := by
  simp [growB] at h
  refine ⟨by omega, ?_⟩
  by_cases h0 : widthF r = 0
  · exact .inr (h.2 h0)
  · exact .inl h0

theorem six_set1 {w : World} {b : Nat} {v0 v1 v2 v3 v4 v5 u x : Value} {T : TypeId} (h : w.heap[b]? = some (.cells #[v0, v1, v2, v3, v4, v5] T (0, 0))) : ((w.setCell ⟨b, 1, none⟩ u).setCell ⟨b, 2, none⟩ x).heap[b]? = some (.cells #[v0, u, x, v3, v4, v5] T (0, 0)) := by
  simp [World.setCell, Array.getElem?_modify, h]

set_option maxRecDepth 100000 in
set_option maxHeartbeats 4000000 in
theorem grows_calls (pv lv : Value) (prompt line : List Int) (point rows cols : Int) (across : Bool) (r : Int) (w : World) (hL : Laid w) (hp : RI w pv prompt) (hl : RI w lv line) :
    Calls Tryd.prog 5 #[.agg #[pv, lv, .int .i64 point, .int .i64 rows, .int .i64 cols, .bool across], .int .i32 r] w fun e w' => e = .returned (.bool true) ∧ Below w.heap.size w w' := by
  have HPV := Hd.mk hp
  have HLV := Hd.mk hl
  have HL := Hd.mk hL
  obtain ⟨Ap, cp, rfl, p1, p2, -⟩ := hp
  obtain ⟨Al, cl, rfl, l1, l2, -⟩ := hl
  have hp3 : prompt.length ≤ 9223372036854775807 := Nat.le_trans p1 (by unfold maxLen at p2; omega)
  have hl3 : line.length ≤ 9223372036854775807 := Nat.le_trans l1 (by unfold maxLen at l2; omega)
  clear hL p1 p2 l1 l2
  have HB0 := Hd.mk (below_alloc1 w (.cells #[.slice Ap prompt.length cp, .slice Al line.length cl, .int .i64 line.length, .int .i64 rows, .int .i64 cols, .bool false] 24))
  have HX0 := Hd.mk (heap_alloc_new w (.cells #[.slice Ap prompt.length cp, .slice Al line.length cl, .int .i64 line.length, .int .i64 rows, .int .i64 cols, .bool false] 24))
  have HLI := Hd.mk (fun wx (hb : Below w.heap.size w wx) => live_calls wx (HL.out.step hb))
  go_enter Tryd.func5, Tryd.ntmps5
  go_wp2_with fail
  generalize w.alloc (.cells #[.slice Ap prompt.length cp, .slice Al line.length cl, .int .i64 line.length, .int .i64 rows, .int .i64 cols, .bool false] 24) = w0 at *
  by_cases hck : checkF prompt.length line.length line.length rows cols = 0
  · have HCK := Hd.mk hck
    clear hck
    obtain ⟨hr1, hr2, hc1, hc2, hpn, hln, hq0, hq1⟩ := checkF_ok HCK.out
    obtain ⟨rn, rfl⟩ := Int.eq_ofNat_of_zero_le (show 0 ≤ rows by omega)
    obtain ⟨cn, rfl⟩ := Int.eq_ofNat_of_zero_le (show 0 ≤ cols by omega)
    refine (rows_calls _ _ prompt line line.length rn cn false w0 (HL.out.step HB0.out) (Rd.below HPV.out HB0.out) (Rd.below HLV.out HB0.out) HCK.out).mono ?_
    have HRN := Hd.mk (rowsF_len prompt line line.length cn false hpn hln)
    have HLAW := Hd.mk (grows_law prompt line r cn)
    generalize rowsF prompt line line.length cn false = R at *
    obtain ⟨RA, ra, rc⟩ := R
    rintro e w1 ⟨v1, rfl, ho1, hb1⟩
    have HO1 := Hd.mk (show OR w1 w0.heap.size v1 RA from ho1)
    have HB1 := Hd.mk (below_next HB0.out hb1)
    have HX1 := Hd.mk (box_touch HX0.out (Touch.of_below (S := fun _ => False) hb1) id)
    have hra : RA.length ≤ 100000000 := HRN.out
    obtain ⟨A1, c1, rfl⟩ := HO1.out.slice
    clear ho1 hb1
    go_upto_region 4 with (fail)
    have HX2 := Hd.mk (heap_at (x := .cells #[.int .i64 ra, .int .i64 rc] 27) HX1.out)
    have HO2 := Hd.mk (HO1.out.below (below_alloc1 w1 (.cells #[.int .i64 ra, .int .i64 rc] 27)))
    have HB2 := Hd.mk (below_next HB1.out (below_alloc1 w1 (.cells #[.int .i64 ra, .int .i64 rc] 27)))
    generalize w1.alloc (.cells #[.int .i64 ra, .int .i64 rc] 27) = w2 at *
    have y1 : w2.cell? ⟨w.heap.size, 1, none⟩ = some (.slice Al line.length cl) := by rw [blk_cell HX2.out]; rfl
    go_cut [44] (fun s w' => s = .bool (growB line r) ∧ Hd (Below w2.heap.size w2 w'))
    case first =>
      by_cases h1 : 1024 ≤ line.length
      · have HG := Hd.mk (show growB line r = true by simp [growB, h1])
        go_wp2_with fail
        go_meet
        exact ⟨by rw [HG.out], ⟨Below.refl _ _⟩⟩
      · have h2 : line.length < 1024 := by omega
        have h2b : decide (1024 ≤ (line.length : Int)) = false := by simp; omega
        have h2c : decide (1024 ≤ line.length) = false := by simp; omega
        by_cases hw : widthF r = 0
        · have hwb : (widthF r == 0) = true := beq_iff_eq.2 hw
          cases hc : controlB r with
          | true =>
            have HG := Hd.mk (show growB line r = false by simp [growB, hc]; omega)
            clear hw
            go_wp2_with (first
              | (go_at_call 13; refine (width_calls r _ (HL.out.step HB2.out)).mono ?_; rintro e w3 ⟨rfl, hb3⟩; have HB3 := Hd.mk hb3; clear hb3)
              | (go_at_call 17; refine (control_calls _ _).mono ?_; rw [hc]; rintro e w' ⟨rfl, rfl⟩)
              | (go_at_call 11; refine (HLI.out _ (below_next HB2.out HB3.out)).mono ?_; rintro e w4 ⟨rfl, hb4⟩; have HB4 := Hd.mk hb4; clear hb4))
            go_meet
            exact ⟨by rw [HG.out], ⟨below_next HB3.out HB4.out⟩⟩
          | false =>
            have HG := Hd.mk (show growB line r = true by simp [growB, hc, hw])
            clear hw
            go_wp2_with (first
              | (go_at_call 13; refine (width_calls r _ (HL.out.step HB2.out)).mono ?_; rintro e w3 ⟨rfl, hb3⟩; have HB3 := Hd.mk hb3; clear hb3)
              | (go_at_call 17; refine (control_calls _ _).mono ?_; rw [hc]; rintro e w' ⟨rfl, rfl⟩))
            go_meet
            exact ⟨by rw [HG.out], HB3⟩
        · have hwb : (widthF r == 0) = false := beq_eq_false_iff_ne.2 hw
          have HG := Hd.mk (show growB line r = false by simp [growB, hw]; omega)
          clear hw
          go_wp2_with (first
            | (go_at_call 13; refine (width_calls r _ (HL.out.step HB2.out)).mono ?_; rintro e w3 ⟨rfl, hb3⟩; have HB3 := Hd.mk hb3; clear hb3)
            | (go_at_call 11; refine (HLI.out _ (below_next HB2.out HB3.out)).mono ?_; rintro e w4 ⟨rfl, hb4⟩; have HB4 := Hd.mk hb4; clear hb4))
          go_meet
          exact ⟨by rw [HG.out], ⟨below_next HB3.out HB4.out⟩⟩
    case rest =>
      obtain ⟨rfl, HB23⟩ := hcut
      clear y1
      have HB3 := Hd.mk (below_next HB2.out HB23.out)
      have HX3 := Hd.mk (box_touch HX2.out (Touch.of_below (S := fun _ => False) HB23.out) id)
      have HO3 := Hd.mk (HO2.out.below HB23.out)
      cases hg : growB line r with
      | true =>
        go_wp2_with (go_at_call 11; refine (HLI.out _ HB3.out).mono ?_; rintro e w4 ⟨rfl, hb4⟩)
        exact bodyPost_ret (v := .bool true) (by simp [results, Tryd.results5, go_sem]) rfl ⟨rfl, below_next HB3.out hb4⟩
      | false =>
        obtain ⟨hl2, hwid⟩ := growB_false hg
        obtain ⟨hle, hsame⟩ := HLAW.out hwid
        clear hwid hg HLAW
        change RA.length ≤ _ at hle
        change ∀ i, i + 2 < RA.length → RA[i]? = _ at hsame
        have HSA := Hd.mk hsame
        clear hsame
        have y1 : wc.cell? ⟨w.heap.size, 1, none⟩ = some (.slice Al line.length cl) := by rw [blk_cell HX3.out]; rfl
        go_wp2_with fail
        refine (clone_calls _ line wc (Rd.below HLV.out HB3.out) (by omega)).mono ?_
        rintro e w4 ⟨v4, rfl, ho4, hb4⟩
        have HO4 := Hd.mk (show w4.ownsRow wc.heap.size 21 1 v4 line.length (nums line) from ho4)
        have HB4 := Hd.mk hb4
        obtain ⟨A4, c4, rfl⟩ := own_slice ho4
        have hz4 := hb4.size
        clear ho4 hb4 y1
        go_wp2_with (at_builtin; refine app_lit rfl (.tmp 48) (.tmp 50) 22 21 _ 1 4 rfl Tryd.underlying22 Tryd.info21 rfl (by decide) (by decide) wc.heap.size _ _ 1 _ _ rfl rfl rfl ?h1 HO4.out hz4 (by omega) ?_)
        case h1 => exact rfl
        intro v5 w5 hown5 hgr5 hat5
        obtain ⟨A5, c5, rfl⟩ := own_slice hown5
        have HC5 := Hd.mk (HB4.out.grown hgr5 hz4 (fun j hj => (own_lt HO4.out j hj).1))
        have HB5 := Hd.mk (below_next HB3.out HC5.out)
        have HX5 := Hd.mk (box_touch HX3.out (Touch.of_below (S := fun _ => False) HC5.out) id)
        have HI5 := Hd.mk (OI.mk (l := line ++ [r]) hown5 (by simp) (by simp [nums]))
        have HO5 := Hd.mk (HO3.out.below HC5.out)
        clear hown5 hgr5 hat5
        have hz3 := HB3.out.size
        have hz2 := box_lt HX3.out
        have y0 : w5.cell? ⟨w.heap.size, 0, none⟩ = some (.slice Ap prompt.length cp) := by rw [blk_cell HX5.out]; rfl
        have y1 : w5.cell? ⟨w.heap.size, 1, none⟩ = some (.slice Al line.length cl) := by rw [blk_cell HX5.out]; rfl
        have y2 : w5.cell? ⟨w.heap.size, 2, none⟩ = some (.int .i64 line.length) := by rw [blk_cell HX5.out]; rfl
        have y3 : w5.cell? ⟨w.heap.size, 3, none⟩ = some (.int .i64 rn) := by rw [blk_cell HX5.out]; rfl
        have y4 : w5.cell? ⟨w.heap.size, 4, none⟩ = some (.int .i64 cn) := by rw [blk_cell HX5.out]; rfl
        have y5 : w5.cell? ⟨w.heap.size, 5, none⟩ = some (.bool false) := by rw [blk_cell HX5.out]; rfl
        have q1 : w5.frozen? ⟨w.heap.size, 1, none⟩ = false := blk_froz HX5.out _
        have q2 : w5.frozen? ⟨w.heap.size, 2, none⟩ = false := blk_froz HX5.out _
        go_wp2_with fail
        clear y0 y1 y2 y3 y4 y5 q1 q2
        have hT := ((Touch.refl (fun j => j = w.heap.size) w5).setCell ⟨w.heap.size, 1, none⟩ (.slice A5 (line.length + 1) c5) rfl).setCell ⟨w.heap.size, 2, none⟩ (.int .i64 ((line.length : Int) + 1)) rfl
        have HB6 := Hd.mk ((HB5.out.setCell (p := ⟨w.heap.size, 1, none⟩) (Nat.le_refl _) (.slice A5 (line.length + 1) c5)).setCell (p := ⟨w.heap.size, 2, none⟩) (Nat.le_refl _) (.int .i64 ((line.length : Int) + 1)))
        have HO6 := Hd.mk (HO5.out.touch hT HX5.out (by decide) (by decide))
        have hRI : RI ((w5.setCell ⟨w.heap.size, 1, none⟩ (.slice A5 (line.length + 1) c5)).setCell ⟨w.heap.size, 2, none⟩ (.int .i64 ((line.length : Int) + 1))) (.slice A5 (line.length + 1) c5) (line ++ [r]) :=
          OI.ri (show OI _ wc.heap.size _ (line ++ [r]) from Touch.own HI5.out hT (fun k hk e => by have := (own_lt HI5.out k hk).1; omega))
        have HRI := Hd.mk hRI
        clear hT hRI
        generalize (w5.setCell ⟨w.heap.size, 1, none⟩ (.slice A5 (line.length + 1) c5)).setCell ⟨w.heap.size, 2, none⟩ (.int .i64 ((line.length : Int) + 1)) = w6 at *
        have hrc := rows_calls (.slice Ap prompt.length cp) (.slice A5 (line.length + 1) c5) prompt (line ++ [r]) (line.length + 1) rn cn false w6 (HL.out.step HB6.out) (Rd.below HPV.out HB6.out) HRI.out (checkF_mk (by simp; omega))
        rw [show (((line.length + 1 : Nat)) : Int) = (line.length : Int) + 1 from rfl] at hrc
        refine hrc.mono ?_
        clear hrc
        generalize rowsF prompt (line ++ [r]) (line.length + 1) cn false = R2 at *
        obtain ⟨RB, rb, rd⟩ := R2
        change RA.length ≤ RB.length at hle
        rintro e w7 ⟨v7, rfl, ho7, hb7⟩
        have HB7 := Hd.mk (below_next HB6.out (below_next hb7 (below_alloc1 w7 (.cells #[.int .i64 rb, .int .i64 rd] 27))))
        have HO7 := Hd.mk (HO6.out.below (below_next hb7 (below_alloc1 w7 (.cells #[.int .i64 rb, .int .i64 rd] 27))))
        have HP7 := Hd.mk ((show OR w7 w6.heap.size v7 RB from ho7).below (below_alloc1 w7 (.cells #[.int .i64 rb, .int .i64 rd] 27)))
        obtain ⟨A7, c7, rfl⟩ := HP7.out.slice
        clear ho7 hb7
        have hlb : decide (RB.length < RA.length) = false := by simp; omega
        go_wp2_with fail
        clear hlb
        generalize w7.alloc (.cells #[.int .i64 rb, .int .i64 rd] 27) = w8 at *
        go_loopg [11] RA.length (fun gk i wr => ∃ k : Nat, k + gk = RA.length ∧ i = .int .i64 k ∧ Hd (Below w8.heap.size w8 wr))
        case atStart => exact ⟨0, by omega, rfl, ⟨Below.refl _ _⟩⟩
        case round =>
          obtain ⟨k, hk, rfl, HBB⟩ := hrel
          have HBW := Hd.mk (below_next HB7.out HBB.out)
          by_cases hlt : k + 2 < RA.length
          · have hd : decide ((k : Int) < (RA.length : Int) - 2) = true := by simp; omega
            have hkA : k < RA.length := by omega
            have hkB : k < RB.length := by omega
            obtain ⟨ga, capa, Aa, ca, hva, -, -, hcella, HRa⟩ := OR.at_ (HO7.out.below HBB.out) hkA
            injection hva with hv1 hv2 hv3
            clear hv2
            subst hv1 hv3
            obtain ⟨gb, capb, Ab, cb, hvb, -, -, hcellb, HRb⟩ := OR.at_ (HP7.out.below HBB.out) hkB
            injection hvb with hv1 hv2 hv3
            clear hv2
            subst hv1 hv3
            have he : RA[k] = RB[k] := by
              have := HSA.out k hlt
              rw [List.getElem?_eq_getElem hkA] at this
              change some RA[k] = RB[k]? at this
              rw [List.getElem?_eq_getElem hkB] at this
              injection this
            rw [← he] at hcellb HRb
            clear he
            generalize RA[k] = row at *
            go_upto_region 14 with (fail)
            clear hd hlt
            go_cut [88] (fun s w' => s = .bool false ∧ Hd (Below w8.heap.size w8 w'))
            case first =>
              go_region_law (go_simp; go_at_call 15; refine (equalCells_calls _ _ row row _ (by exact OC.rc HRa.out) (by exact OC.rc HRb.out)).mono ?_; rw [cellsEqB_refl]; rintro e w9 ⟨rfl, hb9⟩; replace hb9 := undrew hb9; have HB9 := Hd.mk (below_next HBB.out hb9); clear hb9)
              all_goals (go_wp2_with fail; go_meet; exact ⟨rfl, HB9⟩)
            case rest =>
              obtain ⟨rfl, HB9⟩ := hcut
              clear hcella hcellb
              go_wp2_with fail
              go_roundg (gk - 1)
              case measure => omega
              case rel => exact ⟨k + 1, by omega, by go_num, HB9⟩
          · have hd : decide ((k : Int) < (RA.length : Int) - 2) = false := by simp; omega
            go_wp2_with fail
            exact bodyPost_ret (v := .bool true) (by simp [results, Tryd.results5, go_sem]) rfl ⟨rfl, HBW.out⟩
  · have HCK := Hd.mk hck
    have hckb : (checkF prompt.length line.length line.length rows cols != 0) = true := by simpa using hck
    refine (rows_bad_calls Ap Al prompt.length line.length cp cl line.length rows cols false w0 hp3 hl3 HCK.out).mono ?_
    clear hck
    rintro e w1 ⟨rfl, hb1⟩
    have HB1 := Hd.mk (below_next HB0.out (below_next hb1 (below_alloc1 w1 (.cells #[.int .i64 0, .int .i64 0] 27))))
    clear hb1
    generalize checkF prompt.length line.length line.length rows cols = ck at *
    go_wp2_with (go_at_call 11; refine (HLI.out _ HB1.out).mono ?_; rintro e w2 ⟨rfl, hb2⟩)
    exact bodyPost_ret (v := .bool true) (by simp [results, Tryd.results5, go_sem]) rfl ⟨rfl, below_next HB1.out hb2⟩
end Go.Proofs.YthpfhlhoekgpjaaDoor
