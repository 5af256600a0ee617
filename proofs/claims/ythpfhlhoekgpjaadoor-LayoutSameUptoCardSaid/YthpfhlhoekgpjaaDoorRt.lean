/- The reference's Trim, sameRow, Same. -/
import Derived.Test.YthpfhlhoekgpjaaDoorSa
set_option linter.unusedVariables false
set_option linter.unusedSimpArgs false
namespace Go.Proofs.YthpfhlhoekgpjaaDoor
open Go.RowKit

theorem rblank_calls (w : World) : Calls Tryd.prog 48 #[] w fun e w' => e = .returned (.agg #[.string ⟨#[32]⟩, .int .i64 1, .int .i64 0]) ∧ Below w.heap.size w w' := by
  go_enter Tryd.func48, Tryd.ntmps48
  go_wp2
  exact bodyPost_ret (v := .agg #[.string ⟨#[32]⟩, .int .i64 1, .int .i64 0]) (by simp [results, Tryd.results48, go_sem]) rfl ⟨rfl, below_alloc1 _ _⟩

set_option maxRecDepth 100000 in
set_option maxHeartbeats 4000000 in
theorem rtrim_calls (v : Value) (l : List Cell) (w : World) (hv : RC w v l) (hn : l.length * 32 ≤ 140737488355328) :
    Calls Tryd.prog 25 #[v] w fun e w' => ∃ v', e = .returned v' ∧ OC w' w.heap.size v' (trimF l) ∧ Below w.heap.size w w' := by
  have HV := Hd.mk hv
  obtain ⟨A, c, rfl, hc0, -⟩ := hv
  go_enter Tryd.func25, Tryd.ntmps25
  go_wp2_with fail
  go_loopg [3] l.length (fun gk s wr => ∃ (n : Nat), n = gk ∧ s = .int .i64 n ∧ n ≤ l.length ∧ Hd (trimN l n = trimN l l.length) ∧ Hd (Below w.heap.size w wr))
  case atStart => exact ⟨l.length, rfl, rfl, by omega, ⟨rfl⟩, ⟨Below.refl _ _⟩⟩
  case round =>
    obtain ⟨n, rfl, rfl, hnl, HF, HB⟩ := hrel
    by_cases h0 : 0 < n
    · obtain ⟨b, o, c', hv, h1, h2, h3, hc⟩ := RC.at_ (Rd.below HV.out HB.out) (k := n - 1) (by omega)
      injection hv with hv1 hv2 hv3
      clear hv2
      subst hv1 hv3
      obtain ⟨g0, g1, g2⟩ := hc (n - 1) (by omega)
      clear hc
      obtain ⟨k, rfl⟩ : ∃ k, n = k + 1 := ⟨n - 1, by omega⟩
      simp only [Nat.add_sub_cancel] at g0 g1 g2
      obtain ⟨d, hd⟩ : ∃ d, l[k] = d := ⟨_, rfl⟩
      rw [hd] at g0 g1 g2
      have HD := Hd.mk hd
      clear hd
      obtain ⟨dt, dw, da⟩ := d
      simp only at g0 g1 g2
      have hk1 : IntKind.i64.wrap (k : Int) = k := IntWalk.i64_in _ (by omega)
      have hk2 : k < l.length := by omega
      have hn0 : decide (0 < k + 1) = true := by simp
      have hne : ∀ w : World, (binOp .eql 37 (.agg #[.string dt, .int .i64 dw, .int .i64 da]) (.agg #[.string ⟨#[32]⟩, .int .i64 1, .int .i64 0])).run Tryd.prog w = .ok (.bool (isBlank ⟨dt, dw, da⟩)) w := fun w => eql37 w _ _ _ _ _ _
      have hgd : Tryd.prog.eqGuardType Tryd.prog.depth 37 = false := by kernel_rfl
      go_upto_region 2 with (fail)
      go_cut [17] (fun s w' => s = .bool (isBlank ⟨dt, dw, da⟩) ∧ Hd (Below w.heap.size w w'))
      case first =>
        go_region_law (go_simp; go_at_call 48; refine (rblank_calls _).mono ?_; rintro e w4 ⟨rfl, hb4⟩; replace hb4 := undrew hb4; have HB4 := Hd.mk (below_then HB.out HB.out.size hb4); have k0 := below_cell hb4 g0; have k1 := below_cell hb4 g1; have k2 := below_cell hb4 g2; clear hb4)
        all_goals (go_wp2_with fail; go_meet; exact ⟨rfl, HB4⟩)
      case rest =>
        obtain ⟨rfl, HB5⟩ := hcut
        cases hib : isBlank ⟨dt, dw, da⟩ with
        | true =>
          have HN := Hd.mk (show trimN l k = trimN l l.length by rw [← HF.out, trimN, show l.getD k blankC = _ from (by simp [List.getD, hk2] : l.getD k blankC = l[k]), HD.out, if_pos hib])
          clear hib hne
          go_wp2_with fail
          go_roundg k
          case measure => omega
          case rel => exact ⟨k, by omega, by go_num, by omega, HN, HB5⟩
        | false =>
          have hq : trimF l = l.take (k + 1) := by unfold trimF; rw [← HF.out, trimN, show l.getD k blankC = _ from (by simp [List.getD, hk2] : l.getD k blankC = l[k]), HD.out, if_neg (by rw [hib]; decide)]
          have HQ := Hd.mk hq
          clear hib hne hq
          have HR := Hd.mk (rc_take (RC.below HV.out HB5.out) (k + 1) c (by omega) (by omega) (Nat.le_refl _))
          have hlt : (l.take (k + 1)).length = k + 1 := by simp; omega
          have HRd : Hd (Rd wc (.slice (some ⟨b, o, none⟩) (k + 1) c) (k + 1) (encs (l.take (k + 1)))) := ⟨by have := HR.out; unfold RC at this; rwa [hlt] at this⟩
          have he : (encs (l.take (k + 1))).length = (k + 1) * 3 := by rw [encs_length, hlt]
          have HE := Hd.mk he
          have HLT := Hd.mk hlt
          have hz5 := HB5.out.size
          clear he hlt
          go_wp2_with (at_builtin; refine app_rd rfl (.tmp 20) (.tmp 23) 35 37 _ 3 32 rfl Tryd.underlying35 Tryd.info37 rfl (by decide) (by decide) w.heap.size _ _ 0 (k + 1) [] _ rfl rfl HRd.out HE.out (encs_one _) (World.ownsRow_nil _ _ _ _) hz5 (by omega) ?_)
          intro v6 w6 hown6 hgr6 hat6
          have HO6 := Hd.mk (OC.mk (l := l.take (k + 1)) hown6 (by rw [HLT.out]) (by simp))
          have HB6 := Hd.mk (HB5.out.grown hgr6 hz5 (fun j hj => by simp [Value.ownBlock] at hj))
          clear hown6 hgr6 hat6
          go_wp2_with fail
          exact bodyPost_ret (v := v6) (by simp [results, Tryd.results25, go_sem]) rfl ⟨v6, rfl, by rw [HQ.out]; exact HO6.out, HB6.out⟩
    · have hn0 : n = 0 := by omega
      subst hn0
      have hq : trimF l = [] := by unfold trimF; rw [← HF.out, trimN]; rfl
      have HQ := Hd.mk hq
      clear hq
      have hd0 : decide ((0 : Nat) < 0) = false := by simp
      go_upto_region 2 with (fail)
      go_quiet (fail)
      have HRd : Hd (∀ wx, Below w.heap.size w wx → Rd wx (.slice A 0 c) 0 []) := ⟨fun wx hb => ⟨A, c, rfl, Nat.zero_le _, by obtain ⟨A', c', e, _, h2, _⟩ := HV.out; injection e with _ _ e3; rw [e3]; exact h2, .inl rfl⟩⟩
      have hbq := below_next HB.out (quiet_below (w := wr) nq)
      have HBQ := Hd.mk hbq
      have hzq := hbq.size
      clear hbq
      have hsm : (0 + 0) * 32 ≤ 140737488355328 := by omega
      go_wp2_with (at_builtin; refine app_rd rfl (.tmp 20) (.tmp 23) 35 37 _ 3 32 rfl Tryd.underlying35 Tryd.info37 rfl (by decide) (by decide) w.heap.size _ _ 0 0 [] [] rfl rfl (HRd.out _ HBQ.out) rfl (by simp) (World.ownsRow_nil _ _ _ _) hzq hsm ?_)
      intro v6 w6 hown6 hgr6 hat6
      have HO6 := Hd.mk (OC.mk (l := []) hown6 rfl rfl)
      have HB6 := Hd.mk (HBQ.out.grown hgr6 hzq (fun j hj => by simp [Value.ownBlock] at hj))
      clear hown6 hgr6 hat6
      go_wp2_with fail
      exact bodyPost_ret (v := v6) (by simp [results, Tryd.results25, go_sem]) rfl ⟨v6, rfl, by rw [HQ.out]; exact HO6.out, HB6.out⟩

set_option maxRecDepth 100000 in
set_option maxHeartbeats 4000000 in
theorem sameRow_calls (v u : Value) (xs ys : List Cell) (w : World) (hv : RC w v xs) (hu : RC w u ys) (hn : xs.length * 32 ≤ 140737488355328) (hm : ys.length * 32 ≤ 140737488355328) :
    Calls Tryd.prog 50 #[v, u] w fun e w' => e = .returned (.bool (cellsEqB (trimF xs) (trimF ys))) ∧ Below w.heap.size w w' := by
  have HV := Hd.mk hv
  have HU := Hd.mk hu
  have hlx : (trimF xs).length ≤ xs.length := by unfold trimF; simp; omega
  obtain ⟨A, c, rfl, -⟩ := hv
  obtain ⟨B, d, rfl, -⟩ := hu
  go_enter Tryd.func50, Tryd.ntmps50
  go_wp2_with fail
  refine (rtrim_calls _ xs w HV.out hn).mono ?_
  rintro e w1 ⟨v1, rfl, ho1, hb1⟩
  have HO1 := Hd.mk ho1
  have HB1 := Hd.mk hb1
  obtain ⟨A1, c1, rfl⟩ := own_slice ho1
  clear ho1 hb1
  go_wp2_with fail
  refine (rtrim_calls _ ys w1 (RC.below HU.out HB1.out) hm).mono ?_
  rintro e w2 ⟨v2, rfl, ho2, hb2⟩
  have HP2 := Hd.mk (OC.rc ho2)
  have HO2 := Hd.mk (OC.rc (HO1.out.below hb2))
  have HB2 := Hd.mk (below_next HB1.out hb2)
  obtain ⟨A2, c2, rfl⟩ := own_slice ho2
  clear ho2 hb2
  generalize hX : trimF xs = X at *
  generalize hY : trimF ys = Y at *
  have HX := Hd.mk hX
  have HY := Hd.mk hY
  clear hX hY
  by_cases hl : X.length = Y.length
  · have HL := Hd.mk hl
    have hlb : ((X.length : Int) != (Y.length : Int)) = false := by rw [hl]; simp
    clear hl
    go_wp2_with fail
    clear hlb
    go_loopg [5] X.length (fun gk i wr => ∃ k : Nat, k + gk = X.length ∧ i = .int .i64 k ∧ Hd (cellsEqB X Y = cellsEqB (X.drop k) (Y.drop k)) ∧ Hd (Below w2.heap.size w2 wr))
    case atStart => exact ⟨0, by omega, rfl, ⟨rfl⟩, ⟨Below.refl _ _⟩⟩
    case round =>
      obtain ⟨k, hk, rfl, HF, HB⟩ := hrel
      by_cases hlt : k < X.length
      · have hlt2 : k < Y.length := by rw [← HL.out]; exact hlt
        have HS := Hd.mk (eqAll_drop cellEq X Y k hlt hlt2)
        obtain ⟨b1, o1, c1, hv, k1, k2, -, hc1⟩ := RC.at_ (RC.below HO2.out HB.out) hlt
        have hm : X.length ≤ 9223372036854775807 := by omega
        clear k1 k2
        injection hv with hv1 hv2 hv3
        subst hv1 hv3
        obtain ⟨b2, o2, c2, hv, -, -, -, hc2⟩ := RC.at_ (RC.below HP2.out HB.out) hlt2
        injection hv with hv1 hv2 hv3
        subst hv1 hv3
        obtain ⟨g1, g1b, g1c⟩ := hc1 k hlt
        obtain ⟨g2, g2b, g2c⟩ := hc2 k hlt2
        clear hc1 hc2
        generalize X[k] = x at *
        generalize Y[k] = y at *
        obtain ⟨xt, xw, xa⟩ := x
        obtain ⟨yt, yw, ya⟩ := y
        simp only at g1 g1b g1c g2 g2b g2c
        have hne := fun w : World => neq37 w xt yt xw yw xa ya
        have hgd : Tryd.prog.eqGuardType Tryd.prog.depth 37 = false := by kernel_rfl
        cases hxy : cellEq ⟨xt, xw, xa⟩ ⟨yt, yw, ya⟩ with
        | true =>
          have ht : (xt.toList == yt.toList && (xw == yw && (xa == ya))) = true := hxy
          have HE := Hd.mk hxy
          clear hxy
          rw [ht] at hne
          go_upto_region 7 with (fail)
          go_quiet (fail)
          go_wp2_with fail
          go_roundg (gk - 1)
          case measure => omega
          case rel => exact ⟨k + 1, by omega, by go_num, ⟨by rw [HF.out, cellsEqB, HS.out, HE.out, Bool.true_and]⟩, ⟨below_next HB.out (quiet_below _)⟩⟩
        | false =>
          have ht : (xt.toList == yt.toList && (xw == yw && (xa == ya))) = false := hxy
          have HE := Hd.mk hxy
          clear hxy
          rw [ht] at hne
          go_upto_region 7 with (fail)
          go_quiet (fail)
          go_wp2_with fail
          go_ret
          exact ⟨by rw [HX.out, HY.out, HF.out, cellsEqB, HS.out, HE.out, Bool.false_and]; rfl, below_next HB2.out (below_next HB.out (quiet_below _))⟩
      · have h1 : X.drop k = [] := List.drop_of_length_le (by omega)
        have h2 : Y.drop k = [] := List.drop_of_length_le (by have := HL.out; omega)
        have HE := Hd.mk (show cellsEqB (X.drop k) (Y.drop k) = true by rw [h1, h2]; rfl)
        clear h1 h2
        go_wp2_with fail
        go_ret
        exact ⟨by rw [HX.out, HY.out, HF.out, HE.out]; rfl, below_next HB2.out HB.out⟩
  · have hlb : ((X.length : Int) != (Y.length : Int)) = true := by simp; omega
    have HE := Hd.mk (eqAll_len cellEq X Y hl)
    clear hl
    go_wp2_with fail
    go_ret
    exact ⟨by rw [HX.out, HY.out, cellsEqB, HE.out]; rfl, HB2.out⟩
end Go.Proofs.YthpfhlhoekgpjaaDoor
