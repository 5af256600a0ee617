/- layout.cut: the walk. -/
import Derived.Test.YthpfhlhoekgpjaaDoorL2
set_option linter.unusedVariables false
set_option linter.unusedSimpArgs false
namespace Go.Proofs.YthpfhlhoekgpjaaDoor
open Go.RowKit

set_option maxRecDepth 100000 in
set_option maxHeartbeats 8000000 in
theorem cut_calls (B : Nat) (v : Value) (cells : List Cell) (cols : Nat) (cursor : Int) (w : World) (hv : OC w B v cells) (hB : B ≤ w.heap.size) (hc8 : 8 ≤ cols) (hc2 : cols ≤ 200) (hn : cells.length ≤ 100000) :
    Calls Tryd.prog 37 #[v, .int .i64 cols, .int .i64 cursor] w fun e w' => ∃ v', e = .returned (.tuple #[v', .agg #[.int .i64 (cutF cells cols cursor).2.1, .int .i64 (cutF cells cols cursor).2.2]]) ∧ OR w' w.heap.size v' (cutF cells cols cursor).1 ∧ Below w.heap.size w w' := by
  have HV := Hd.mk (OC.rc hv)
  obtain ⟨A, c0, rfl⟩ := own_slice hv
  clear hv
  obtain ⟨MC, hmc, hmk⟩ := make_eq (P := Tryd.prog) 35 37 _ 3 32 Tryd.underlying35 Tryd.info37 cols (by omega) (by unfold maxLen; omega)
  have HMC := Hd.mk hmc
  clear hmc
  go_enter Tryd.func37, Tryd.ntmps37
  go_wp2_with fail
  go_loopg [21] cells.length (fun gk i wr => ∃ (k : Nat) (cs : CutS), k + gk = cells.length ∧ i = .int .i64 k ∧ cs.done.length ≤ k ∧ cs.cur.length ≤ cols ∧ Hd (cutRun cols cursor cells k = cs) ∧
    Hd (CI0 w w.heap.size (w.heap.size + 1 + 1 + 1 + 1) w.heap.size (w.heap.size + 1 + 1 + 1 + 1 + 1) (w.heap.size + 1) cols cs.row cs.col cs.done cs.cur wr))
  case atStart => exact ⟨0, ⟨[], [], 0, 0⟩, by omega, rfl, by simp, by simp, ⟨rfl⟩, ⟨CI0.init w cols MC HMC.out hc2⟩⟩
  case round =>
    obtain ⟨k, cs, hk, rfl, hd1, hd2, HF, HI⟩ := hrel
    obtain ⟨s0, hs0⟩ : ∃ s0, s0 = w.heap.size := ⟨_, rfl⟩
    by_cases hlt : k < cells.length
    · -- DEV{
      obtain ⟨b, o, c', hv, h1, h2, h3, hcell⟩ := RC.at_ (Rd.below HV.out HI.out.bel) hlt
      injection hv with hv1 hv2 hv3
      clear hv2
      subst hv1 hv3
      obtain ⟨g0, g1, g2⟩ := hcell k hlt
      have HS := Hd.mk (cutRun_succ cols cursor cells k hlt)
      have HE := Hd.mk (HI.out.elem cells[k])
      clear hcell
      obtain ⟨c, hc⟩ : ∃ c, cells[k] = c := ⟨_, rfl⟩
      rw [hc] at HE g0 g1 g2 HS
      obtain ⟨ct, cw, ca⟩ := c
      simp only at HE g0 g1 g2
      have HCC := Hd.mk hc
      clear hc
      go_upto_region 8 with (fail)
      generalize hxb : wr.heap.size = xb at *
      generalize hwx : wr.alloc (Obj.cells #[Value.string ct, Value.int IntKind.i64 cw, Value.int IntKind.i64 ca] 37) = wx at *
      clear hwx hxb g0 g1 g2
      have hd3 : cs.done.length ≤ 1000000 := by omega
      obtain ⟨tb, htb⟩ : ∃ tb, decide (cw = 2 ∧ cs.cur.length + 1 = cols) = tb := ⟨_, rfl⟩
      have HTB := Hd.mk htb
      clear htb
      go_cut [38] (fun s w' => s = .bool tb ∧ Hd (CI w w.heap.size (w.heap.size + 1 + 1 + 1 + 1) w.heap.size (w.heap.size + 1 + 1 + 1 + 1 + 1) (w.heap.size + 1) xb cols cs.row cs.col ⟨ct, cw, ca⟩ cs.done cs.cur w'))
      case first =>
        obtain ⟨g, cap, vsd, vc, Bc, hE⟩ := HE.out
        have HEE := Hd.mk hE
        obtain ⟨b0, b1⟩ := box_cell hE.st.box
        have x1 : wx.cell? ⟨xb, 1, none⟩ = some (.int .i64 cw) := by rw [blk_cell hE.elem]; rfl
        obtain ⟨l0, l1⟩ := hE.st.last
        obtain ⟨c0, c1⟩ := box_cell hE.cols
        have HRW := Hd.mk (fun n => row_calls (w.heap.size + 1 + 1 + 1 + 1) g cs.done.length cap (wx.drewN n) (by simpa using b0) hd3 |>.mono (fun e w' h => And.intro h.1 h.2.symm))
        obtain ⟨Av, cv, rfl⟩ := own_slice hE.st.cu
        clear hE
        by_cases q1 : cw = 2
        · have q1b : (cw == 2) = true := beq_iff_eq.2 q1
          by_cases q2 : cs.cur.length + 1 = cols
          · have q2b : ((cs.cur.length : Int) == (cols : Int) - 1) = true := by simp; omega
            have HQ : Hd (decide (cw = 2 ∧ cs.cur.length + 1 = cols) = true) := ⟨by simp [q1, q2]⟩
            clear q1 q2
            go_quiet ((go_at_call 55; exact Calls.quiet_of_same (HRW.out _)))
            go_wp2_with fail
            go_meet
            exact ⟨by rw [← HTB.out, HQ.out], ⟨_, _, _, _, _, HEE.out.below (drewN_below _ _)⟩⟩
          · have q2b : ((cs.cur.length : Int) == (cols : Int) - 1) = false := by simp; omega
            have HQ : Hd (decide (cw = 2 ∧ cs.cur.length + 1 = cols) = false) := ⟨by simp [q2]⟩
            clear q1 q2
            go_quiet ((go_at_call 55; exact Calls.quiet_of_same (HRW.out _)))
            go_wp2_with fail
            go_meet
            exact ⟨by rw [← HTB.out, HQ.out], ⟨_, _, _, _, _, HEE.out.below (drewN_below _ _)⟩⟩
        · have q1b : (cw == 2) = false := beq_eq_false_iff_ne.2 q1
          have HQ : Hd (decide (cw = 2 ∧ cs.cur.length + 1 = cols) = false) := ⟨by simp [q1]⟩
          clear q1
          go_quiet (fail)
          go_wp2_with fail
          go_meet
          exact ⟨by rw [← HTB.out, HQ.out], ⟨_, _, _, _, _, HEE.out.below (drewN_below _ _)⟩⟩
      case rest =>
        obtain ⟨rfl, HE2⟩ := hcut
        clear HE
        obtain ⟨cur1, hcur1⟩ : ∃ cur1, (if cw = 2 ∧ cs.cur.length + 1 = cols then cs.cur ++ [blankC] else cs.cur) = cur1 := ⟨_, rfl⟩
        have hl1 : cur1.length ≤ cols := by rw [← hcur1]; split <;> (try simp) <;> omega
        have HC1 := Hd.mk hcur1
        clear hcur1
        go_upto_if 38 with (fail)
        go_cut [] (fun w' => Hd (CI w w.heap.size (w.heap.size + 1 + 1 + 1 + 1) w.heap.size (w.heap.size + 1 + 1 + 1 + 1 + 1) (w.heap.size + 1) xb cols cs.row cs.col ⟨ct, cw, ca⟩ cs.done cur1 w'))
        case first =>
          cases tb with
          | true =>
            have t1 : cw = 2 ∧ cs.cur.length + 1 = cols := of_decide_eq_true HTB.out
            have hq : cur1 = cs.cur ++ [blankC] := by rw [← HC1.out, if_pos t1]
            have HQ := Hd.mk hq
            obtain ⟨g, cap, vsd, vc, Bc, hE⟩ := HE2.out
            have HEE := Hd.mk hE
            obtain ⟨b0, b1⟩ := box_cell hE.st.box
            obtain ⟨l0, l1⟩ := hE.st.last
            have hln : (cs.cur.length + 1) * 32 ≤ 140737488355328 := by omega
            have hm1 : 1 ≤ maxLen := by unfold maxLen; omega
            obtain ⟨Av, cv, rfl⟩ := own_slice hE.st.cu
            clear hE hq t1
            go_upto_region 9 with (fail)
            go_region_law (first
              | (refine CInv.step_app HEE.out (below_next hb4 (below_alloc1 w4 _)) hln blankC (rd_lit w4 #[.string ⟨#[32]⟩, .int .i64 1, .int .i64 0] 37 1 hm1) rfl (.tmp 44) (.tmp 46) rfl rfl rfl ?_; rintro v5 w5 ⟨A5, k5, rfl⟩ m0 m1 HN)
              | (go_simp; go_at_call 55; refine (row_calls _ g cs.done.length cap _ (by exact b0) hd3).mono ?_; rintro e w' ⟨rfl, rfl⟩)
              | (go_simp; go_at_call 47; refine (blank_calls _).mono ?_; rintro e w4 ⟨rfl, hb4⟩; replace hb4 := undrew hb4; have l0' := below_cell hb4 l0; have l0x := below_cell (below_alloc1 w4 (.cells #[.string ⟨#[32]⟩, .int .i64 1, .int .i64 0] 37)) l0'))
            all_goals (go_wp2_with fail; go_meet; exact ⟨by rw [HQ.out]; exact ⟨_, _, _, _, _, HN.out⟩⟩)
          | false =>
            have t1 : ¬ (cw = 2 ∧ cs.cur.length + 1 = cols) := of_decide_eq_false HTB.out
            have hq : cur1 = cs.cur := by rw [← HC1.out, if_neg t1]
            have HQ := Hd.mk hq
            clear hq t1
            go_wp2_with fail
            go_meet
            exact ⟨by rw [HQ.out]; exact HE2.out⟩
        case rest =>
          have HE3 := hcut
          clear HE2 hcut
          obtain ⟨tf, htf⟩ : ∃ tf, ((cur1.length : Int) == (cols : Int)) = tf := ⟨_, rfl⟩
          have HTF := Hd.mk htf
          clear htf
          obtain ⟨done2, hdone2⟩ : ∃ x, (if cur1.length = cols then cs.done ++ [cur1] else cs.done) = x := ⟨_, rfl⟩
          obtain ⟨cur2, hcur2⟩ : ∃ x, (if cur1.length = cols then [] else cur1) = x := ⟨_, rfl⟩
          have hd4 : done2.length ≤ k + 1 := by rw [← hdone2]; split <;> (try simp) <;> omega
          have hl2 : cur2.length < cols := by rw [← hcur2]; split <;> (try simp) <;> omega
          have HD2 := Hd.mk hdone2
          have HC2 := Hd.mk hcur2
          clear hdone2 hcur2
          go_upto_region 10 with (fail)
          go_cut [55] (fun s w' => s = .bool tf ∧ Hd (CI w w.heap.size (w.heap.size + 1 + 1 + 1 + 1) w.heap.size (w.heap.size + 1 + 1 + 1 + 1 + 1) (w.heap.size + 1) xb cols cs.row cs.col ⟨ct, cw, ca⟩ cs.done cur1 w'))
          case first =>
            obtain ⟨g, cap, vsd, vc, Bc, hE⟩ := HE3.out
            have HEE := Hd.mk hE
            obtain ⟨b0, b1⟩ := box_cell hE.st.box
            obtain ⟨l0, l1⟩ := hE.st.last
            obtain ⟨c0, c1⟩ := box_cell hE.cols
            have HRW := Hd.mk (fun n => row_calls (w.heap.size + 1 + 1 + 1 + 1) g cs.done.length cap (wc.drewN n) (by simpa using b0) hd3 |>.mono (fun e w' h => And.intro h.1 h.2.symm))
            obtain ⟨Av, cv, rfl⟩ := own_slice hE.st.cu
            clear hE
            go_quiet ((go_at_call 55; exact Calls.quiet_of_same (HRW.out _)))
            go_wp2_with fail
            go_meet
            exact ⟨by rw [← HTF.out], ⟨_, _, _, _, _, HEE.out.below (drewN_below _ _)⟩⟩
          case rest =>
            obtain ⟨rfl, HE4⟩ := hcut
            clear HE3
            go_upto_if 55 with (fail)
            go_cut [] (fun w' => Hd (CI w w.heap.size (w.heap.size + 1 + 1 + 1 + 1) w.heap.size (w.heap.size + 1 + 1 + 1 + 1 + 1) (w.heap.size + 1) xb cols cs.row cs.col ⟨ct, cw, ca⟩ done2 cur2 w'))
            case first =>
              cases tf with
              | true =>
                have t1 : cur1.length = cols := by have := beq_iff_eq.1 HTF.out; omega
                have hq1 : done2 = cs.done ++ [cur1] := by rw [← HD2.out, if_pos t1]
                have hq2 : cur2 = [] := by rw [← HC2.out, if_pos t1]
                have HQ1 := Hd.mk hq1
                have HQ2 := Hd.mk hq2
                obtain ⟨g, cap, vsd, vc, Bc, hE⟩ := HE4.out
                have HN := Hd.mk (CInv.next hE hc2 hd3)
                clear hE hq1 hq2 t1
                go_wp2_with (go_at_call 56; refine HN.out.mono ?_; rintro e w4 ⟨rfl, h4⟩; replace h4 := Hd.mk h4)
                go_meet
                exact ⟨by rw [HQ1.out, HQ2.out]; exact h4.out⟩
              | false =>
                have t1 : ¬ cur1.length = cols := by have := beq_eq_false_iff_ne.1 HTF.out; omega
                have hq1 : done2 = cs.done := by rw [← HD2.out, if_neg t1]
                have hq2 : cur2 = cur1 := by rw [← HC2.out, if_neg t1]
                have HQ1 := Hd.mk hq1
                have HQ2 := Hd.mk hq2
                clear hq1 hq2 t1
                go_wp2_with fail
                go_meet
                exact ⟨by rw [HQ1.out, HQ2.out]; exact HE4.out⟩
            case rest =>
              have HE5 := hcut
              clear HE4 hcut
              obtain ⟨tc, htc⟩ : ∃ tc, ((k : Int) == cursor) = tc := ⟨_, rfl⟩
              have HTC := Hd.mk htc
              clear htc
              obtain ⟨row2, hrow2⟩ : ∃ x : Nat, (if (k : Int) = cursor then done2.length else cs.row) = x := ⟨_, rfl⟩
              obtain ⟨col2, hcol2⟩ : ∃ x : Nat, (if (k : Int) = cursor then cur2.length else cs.col) = x := ⟨_, rfl⟩
              have HR2 := Hd.mk hrow2
              have HL2 := Hd.mk hcol2
              clear hrow2 hcol2
              have hd5 : done2.length ≤ 1000000 := by omega
              go_upto_if 60 with (fail)
              go_cut [] (fun w' => Hd (CI w w.heap.size (w.heap.size + 1 + 1 + 1 + 1) w.heap.size (w.heap.size + 1 + 1 + 1 + 1 + 1) (w.heap.size + 1) xb cols row2 col2 ⟨ct, cw, ca⟩ done2 cur2 w'))
              case first =>
                cases tc with
                | true =>
                  have t1 : (k : Int) = cursor := beq_iff_eq.1 HTC.out
                  have hq1 : row2 = done2.length := by rw [← HR2.out, if_pos t1]
                  have hq2 : col2 = cur2.length := by rw [← HL2.out, if_pos t1]
                  have HQ1 := Hd.mk hq1
                  have HQ2 := Hd.mk hq2
                  obtain ⟨g, cap, vsd, vc, Bc, hE⟩ := HE5.out
                  have HEE := Hd.mk hE
                  obtain ⟨b0, b1⟩ := box_cell hE.st.box
                  obtain ⟨l0, l1⟩ := hE.st.last
                  have a0 : wc.cell? ⟨w.heap.size + 1 + 1 + 1 + 1 + 1, 0, none⟩ = some (.int .i64 cs.row) := by rw [blk_cell hE.at_]; rfl
                  have a1 : wc.cell? ⟨w.heap.size + 1 + 1 + 1 + 1 + 1, 1, none⟩ = some (.int .i64 cs.col) := by rw [blk_cell hE.at_]; rfl
                  have f0 : wc.frozen? ⟨w.heap.size + 1 + 1 + 1 + 1 + 1, 0, none⟩ = false := blk_froz hE.at_ _
                  have f1 : wc.frozen? ⟨w.heap.size + 1 + 1 + 1 + 1 + 1, 1, none⟩ = false := blk_froz hE.at_ _
                  obtain ⟨Av, cv, rfl⟩ := own_slice hE.st.cu
                  have HWD := Hd.mk (wrap_nat (show done2.length ≤ 1000000000 by omega))
                  clear hE hq1 hq2 t1
                  have t1b : ((k : Int) == cursor) = true := HTC.out
                  go_upto_region 13 with (fail)
                  clear t1b
                  go_region_law (go_simp; go_at_call 55; refine (row_calls _ g done2.length cap _ (by exact b0) hd5).mono ?_; rintro e w' ⟨rfl, rfl⟩)
                  all_goals (go_wp2_with fail; go_meet; exact ⟨by rw [HQ1.out, HQ2.out, HWD.out]; exact ⟨_, _, _, _, _, (HEE.out.place _ _).below (drewN_below _ 1)⟩⟩)
                | false =>
                  have t1 : ¬ (k : Int) = cursor := beq_eq_false_iff_ne.1 HTC.out
                  have hq1 : row2 = cs.row := by rw [← HR2.out, if_neg t1]
                  have hq2 : col2 = cs.col := by rw [← HL2.out, if_neg t1]
                  have HQ1 := Hd.mk hq1
                  have HQ2 := Hd.mk hq2
                  clear hq1 hq2 t1
                  have t1b : ((k : Int) == cursor) = false := HTC.out
                  go_wp2_with fail
                  go_meet
                  exact ⟨by rw [HQ1.out, HQ2.out]; exact HE5.out⟩
              case rest =>
                have HE6 := hcut
                clear HE5 hcut
                have hst : cutRun cols cursor cells (k + 1) = ⟨done2, cur2 ++ [⟨ct, cw, ca⟩], row2, col2⟩ := by
                  rw [HS.out, HF.out]
                  simp only [cutStep, cutPre, HC1.out, ← HD2.out, ← HC2.out, ← HR2.out, ← HL2.out]
                  split <;> simp
                have HST := Hd.mk hst
                clear hst
                go_upto_region 14 with (fail)
                obtain ⟨g, cap, vsd, vc, Bc, hE⟩ := HE6.out
                have HEE := Hd.mk hE
                obtain ⟨b0, b1⟩ := box_cell hE.st.box
                obtain ⟨l0, l1⟩ := hE.st.last
                have x0 : wc.cell? ⟨xb, 0, none⟩ = some (.string ct) := by rw [blk_cell hE.elem]; rfl
                have x1 : wc.cell? ⟨xb, 1, none⟩ = some (.int .i64 cw) := by rw [blk_cell hE.elem]; rfl
                have x2 : wc.cell? ⟨xb, 2, none⟩ = some (.int .i64 ca) := by rw [blk_cell hE.elem]; rfl
                have hln : (cur2.length + 1) * 32 ≤ 140737488355328 := by omega
                have hm1 : 1 ≤ maxLen := by unfold maxLen; omega
                have l0x := below_cell (below_alloc1 wc (.cells #[.string ct, .int .i64 cw, .int .i64 ca] 37)) l0
                have b0x := below_cell (below_alloc1 wc (.cells #[.string ct, .int .i64 cw, .int .i64 ca] 37)) b0
                obtain ⟨Av, cv, rfl⟩ := own_slice hE.st.cu
                clear hE
                go_region_law (first
                  | (refine CInv.step_app HEE.out (below_next (drewN_below wc 1) (below_alloc1 wc.drew _)) hln ⟨ct, cw, ca⟩ (rd_lit wc.drew #[.string ct, .int .i64 cw, .int .i64 ca] 37 1 hm1) rfl (.tmp 75) (.tmp 77) rfl rfl rfl ?_; rintro v5 w5 ⟨A5, k5, rfl⟩ m0 m1 HN)
                  | (go_simp; go_at_call 55; refine (row_calls _ g done2.length cap _ (by first | exact b0 | exact b0x) hd5).mono ?_; rintro e w' ⟨rfl, rfl⟩))
                all_goals
                  have HE7 := Hd.mk (CI.to0 ⟨_, _, _, _, _, HN.out⟩)
                  clear HN
                  go_wp2_with fail
                  go_roundg (gk - 1)
                  case measure => omega
                  case rel => exact ⟨k + 1, ⟨done2, cur2 ++ [⟨ct, cw, ca⟩], row2, col2⟩, by omega, by go_num, by exact hd4, by simp; omega, HST, HE7⟩
      -- DEV}
    · have hkk : k = cells.length := by omega
      subst hkk
      have hd3 : cs.done.length ≤ 1000000 := by omega
      clear hk hlt
      obtain ⟨tq, htq⟩ : ∃ tq, (cursor == (cells.length : Int)) = tq := ⟨_, rfl⟩
      have HTQ := Hd.mk htq
      clear htq
      obtain ⟨S, hS⟩ : ∃ S : CutS, (if cursor = cells.length then (if cs.cur.length = cols then ⟨cs.done ++ [cs.cur], [], cs.done.length + 1, 0⟩ else ⟨cs.done, cs.cur, cs.done.length, cs.cur.length⟩) else cs) = S := ⟨_, rfl⟩
      have HSS := Hd.mk hS
      clear hS
      go_upto_if 84 with (fail)
      go_cut [] (fun w' => Hd (CI0 w w.heap.size (w.heap.size + 1 + 1 + 1 + 1) w.heap.size (w.heap.size + 1 + 1 + 1 + 1 + 1) (w.heap.size + 1) cols S.row S.col S.done S.cur w'))
      case first =>
        cases tq with
        | true =>
          have t1 : cursor = (cells.length : Int) := beq_iff_eq.1 HTQ.out
          have hq := HSS.out
          rw [if_pos t1] at hq
          have HQ := Hd.mk hq
          clear hq t1
          have t1b : (cursor == (cells.length : Int)) = true := HTQ.out
          go_upto_region 17 with (fail)
          clear t1b
          obtain ⟨tf, htf⟩ : ∃ tf, ((cs.cur.length : Int) == (cols : Int)) = tf := ⟨_, rfl⟩
          have HTF := Hd.mk htf
          clear htf
          go_cut [91] (fun s w' => s = .bool tf ∧ Hd (CI0 w w.heap.size (w.heap.size + 1 + 1 + 1 + 1) w.heap.size (w.heap.size + 1 + 1 + 1 + 1 + 1) (w.heap.size + 1) cols cs.row cs.col cs.done cs.cur w'))
          case first =>
            obtain ⟨g, cap, vsd, vc, Bc, hst, hcols, hat, hres, k1, k2, k3⟩ := HI.out
            obtain ⟨b0, b1⟩ := box_cell hst.box
            obtain ⟨l0, l1⟩ := hst.last
            obtain ⟨c0, c1⟩ := box_cell hcols
            have HRW := Hd.mk (fun n => row_calls (w.heap.size + 1 + 1 + 1 + 1) g cs.done.length cap (wr.drewN n) (by simpa using b0) hd3 |>.mono (fun e w' h => And.intro h.1 h.2.symm))
            obtain ⟨Av, cv, rfl⟩ := own_slice hst.cu
            clear hst hcols hat hres
            go_quiet ((go_at_call 55; exact Calls.quiet_of_same (HRW.out _)))
            go_wp2_with fail
            go_meet
            exact ⟨by rw [← HTF.out], ⟨HI.out.below (drewN_below _ _)⟩⟩
          case rest =>
            obtain ⟨rfl, HI1⟩ := hcut
            obtain ⟨done2, hdone2⟩ : ∃ x, (if cs.cur.length = cols then cs.done ++ [cs.cur] else cs.done) = x := ⟨_, rfl⟩
            obtain ⟨cur2, hcur2⟩ : ∃ x, (if cs.cur.length = cols then [] else cs.cur) = x := ⟨_, rfl⟩
            have hd4 : done2.length ≤ 1000000 := by rw [← hdone2]; split <;> (try simp) <;> omega
            have HD2 := Hd.mk hdone2
            have HC2 := Hd.mk hcur2
            clear hdone2 hcur2
            go_upto_if 91 with (fail)
            go_cut [] (fun w' => Hd (CI0 w w.heap.size (w.heap.size + 1 + 1 + 1 + 1) w.heap.size (w.heap.size + 1 + 1 + 1 + 1 + 1) (w.heap.size + 1) cols cs.row cs.col done2 cur2 w'))
            case first =>
              cases tf with
              | true =>
                have t1 : cs.cur.length = cols := by have := beq_iff_eq.1 HTF.out; omega
                have hq1 : done2 = cs.done ++ [cs.cur] := by rw [← HD2.out, if_pos t1]
                have hq2 : cur2 = [] := by rw [← HC2.out, if_pos t1]
                have HQ1 := Hd.mk hq1
                have HQ2 := Hd.mk hq2
                have HN := Hd.mk (CI0.next HI1.out hc2 hd3)
                clear hq1 hq2 t1
                go_wp2_with (go_at_call 56; refine HN.out.mono ?_; rintro e w4 ⟨rfl, h4⟩; replace h4 := Hd.mk h4)
                go_meet
                exact ⟨by rw [HQ1.out, HQ2.out]; exact h4.out⟩
              | false =>
                have t1 : ¬ cs.cur.length = cols := by have := beq_eq_false_iff_ne.1 HTF.out; omega
                have hq1 : done2 = cs.done := by rw [← HD2.out, if_neg t1]
                have hq2 : cur2 = cs.cur := by rw [← HC2.out, if_neg t1]
                have HQ1 := Hd.mk hq1
                have HQ2 := Hd.mk hq2
                clear hq1 hq2 t1
                go_wp2_with fail
                go_meet
                exact ⟨by rw [HQ1.out, HQ2.out]; exact HI1.out⟩
            case rest =>
              have HI2 := hcut
              clear hcut
              have hq3 : S = ⟨done2, cur2, done2.length, cur2.length⟩ := by
                rw [← HQ.out, ← HD2.out, ← HC2.out]
                split <;> simp
              have HQ3 := Hd.mk hq3
              obtain ⟨g, cap, vsd, vc, Bc, hst, hcols, hat, hres, k1, k2, k3⟩ := HI2.out
              obtain ⟨b0, b1⟩ := box_cell hst.box
              obtain ⟨l0, l1⟩ := hst.last
              have a0 : wc.cell? ⟨w.heap.size + 1 + 1 + 1 + 1 + 1, 0, none⟩ = some (.int .i64 cs.row) := by rw [blk_cell hat]; rfl
              have a1 : wc.cell? ⟨w.heap.size + 1 + 1 + 1 + 1 + 1, 1, none⟩ = some (.int .i64 cs.col) := by rw [blk_cell hat]; rfl
              have f0 : wc.frozen? ⟨w.heap.size + 1 + 1 + 1 + 1 + 1, 0, none⟩ = false := blk_froz hat _
              have f1 : wc.frozen? ⟨w.heap.size + 1 + 1 + 1 + 1 + 1, 1, none⟩ = false := blk_froz hat _
              obtain ⟨Av, cv, rfl⟩ := own_slice hst.cu
              have HWD := Hd.mk (wrap_nat (show done2.length ≤ 1000000000 by omega))
              clear hst hcols hat hres hq3
              go_upto_region 19 with (fail)
              go_region_law (go_simp; go_at_call 55; refine (row_calls _ g done2.length cap _ (by exact b0) hd4).mono ?_; rintro e w' ⟨rfl, rfl⟩)
              all_goals (go_wp2_with fail; go_meet; exact ⟨by rw [HQ3.out, HWD.out]; exact (HI2.out.place _ _).below (drewN_below _ 1)⟩)
        | false =>
          have t1 : ¬ cursor = (cells.length : Int) := beq_eq_false_iff_ne.1 HTQ.out
          have hq := HSS.out
          rw [if_neg t1] at hq
          subst hq
          clear t1
          have t1b : (cursor == (cells.length : Int)) = false := HTQ.out
          go_wp2_with fail
          go_meet
          exact HI
      case rest =>
        have HI3 := hcut
        clear hcut
        obtain ⟨g, cap, b0, ⟨a0, a1⟩, ⟨r0, r1, r2, r3⟩, HO⟩ := HI3.out.rows
        go_upto_region 20 with (fail)
        go_region
        go_wp2_with fail
        obtain ⟨q1, q2⟩ := HO.out _ _ _ rfl
        have hCF : cutF cells cols cursor = (S.done ++ [S.cur], S.row, S.col) := by
          rw [← HSS.out]
          simp only [cutF, HF.out]
          split
          · split <;> simp
          · rfl
        rw [hCF]
        exact bodyPost_ret (v := .tuple #[.slice (some ⟨g, 0, none⟩) (S.done.length + 1) cap, .agg #[.int .i64 S.row, .int .i64 S.col]]) (by simp [results, Tryd.results37, go_sem, r0, r1]) rfl ⟨_, rfl, q1.below (drewN_below _ 1), ⟨q2.os, q2.tape, q2.output, q2.size, q2.block⟩⟩
end Go.Proofs.YthpfhlhoekgpjaaDoor
