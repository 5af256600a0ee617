/- layout.Trim at rows of any length that fits the memory; layout.bare; slices.EqualFunc over rows. -/
import Derived.Test.YthpfhlhoekgpjaaDoorU
import Derived.IntWalk
set_option linter.unusedVariables false
set_option linter.unusedSimpArgs false
namespace Go.Proofs.YthpfhlhoekgpjaaDoor
open Go.RowKit

set_option maxRecDepth 100000 in
set_option maxHeartbeats 4000000 in
theorem trim_any (v : Value) (l : List Cell) (w : World) (hv : RC w v l) (hn : l.length * 32 ≤ 140737488355328) :
    Calls Tryd.prog 21 #[v] w fun e w' => ∃ v', e = .returned v' ∧ OC w' w.heap.size v' (trimF l) ∧ Below w.heap.size w w' := by
  have HV := Hd.mk hv
  obtain ⟨A, c, rfl, -⟩ := hv
  go_enter Tryd.func21, Tryd.ntmps21
  go_wp2_with fail
  go_step3
  go_wp2_with fail
  go_step3
  go_wp2_with fail
  go_loopg [3] l.length (fun gk s wr => ∃ (n : Nat), n = gk ∧ s = .int .i64 n ∧ n ≤ l.length ∧ Hd (trimN l n = trimN l l.length) ∧ Hd (Below w.heap.size w wr))
  case atStart => exact ⟨l.length, rfl, rfl, by omega, ⟨rfl⟩, ⟨Below.refl _ _⟩⟩
  case round =>
    obtain ⟨n, rfl, rfl, hnl, HF, HB⟩ := hrel
    by_cases h0 : 0 < n
    · obtain ⟨b, o, c', hv, h1, h2, h3, hc⟩ := RC.at_ (Rd.below HV.out HB.out) (k := n - 1) (by omega)
      injection hv with hv1 hv2 hv3
      clear hv2
      subst hv1 hv3
      obtain ⟨g0, g1, g2⟩ := hc (n - 1) (by omega)
      clear hc
      obtain ⟨k, rfl⟩ : ∃ k, n = k + 1 := ⟨n - 1, by omega⟩
      simp only [Nat.add_sub_cancel] at g0 g1 g2
      obtain ⟨d, hd⟩ : ∃ d, l[k] = d := ⟨_, rfl⟩
      rw [hd] at g0 g1 g2
      have HD := Hd.mk hd
      clear hd
      obtain ⟨dt, dw, da⟩ := d
      simp only at g0 g1 g2
      have hk1 : IntKind.i64.wrap (k : Int) = k := IntWalk.i64_in _ (by omega)
      have hk2 : k < l.length := by omega
      go_upto_region 3 with (fail)
      have hne : ∀ w : World, (binOp .neq 37 (.agg #[.string dt, .int .i64 dw, .int .i64 da]) (.agg #[.string ⟨#[32]⟩, .int .i64 1, .int .i64 0])).run Tryd.prog w = .ok (.bool (!isBlank ⟨dt, dw, da⟩)) w := fun w => neq37 w _ _ _ _ _ _
      have hgd : Tryd.prog.eqGuardType Tryd.prog.depth 37 = false := by kernel_rfl
      go_cut [14] (fun s w' => s = .bool (!isBlank ⟨dt, dw, da⟩) ∧ Hd (Below w.heap.size w w'))
      case first =>
        go_region_law (go_simp; go_at_call 47; refine (blank_calls _).mono ?_; rintro e w4 ⟨rfl, hb4⟩; replace hb4 := undrew hb4; have HB4 := Hd.mk (below_then HB.out HB.out.size hb4); have k0 := below_cell hb4 g0; have k1 := below_cell hb4 g1; have k2 := below_cell hb4 g2; clear hb4)
        all_goals (go_wp2_with fail; go_meet; exact ⟨rfl, HB4⟩)
      case rest =>
        obtain ⟨rfl, HB5⟩ := hcut
        cases hib : isBlank ⟨dt, dw, da⟩ with
        | true =>
          have HN := Hd.mk (show trimN l k = trimN l l.length by rw [← HF.out, trimN, show l.getD k blankC = _ from (by simp [List.getD, hk2] : l.getD k blankC = l[k]), HD.out, if_pos hib])
          clear hib hne
          go_wp2_with fail
          go_roundg k
          case measure => omega
          case rel => exact ⟨k, by omega, by go_num, by omega, HN, HB5⟩
        | false =>
          have hq : trimF l = l.take (k + 1) := by unfold trimF; rw [← HF.out, trimN, show l.getD k blankC = _ from (by simp [List.getD, hk2] : l.getD k blankC = l[k]), HD.out, if_neg (by rw [hib]; decide)]
          have HQ := Hd.mk hq
          clear hib hne hq
          have HR := Hd.mk (rc_take (RC.below HV.out HB5.out) (k + 1) (k + 1) (by omega) (Nat.le_refl _) (by omega))
          go_wp2_with (go_at_call 20; refine (cloneC_calls _ _ _ (by exact HR.out) (by simp; omega)).mono ?_; rintro e w6 ⟨v6, rfl, ho6, hb6⟩; have HO6 := Hd.mk ho6; have HB6 := Hd.mk hb6; clear ho6 hb6)
          rw [Exit.noGoto_ret]
          exact bodyPost_ret (v := v6) (by simp [results, Tryd.results21, go_sem]) rfl ⟨v6, rfl, by rw [HQ.out]; exact OC.mono HO6.out HB5.out.size, below_then HB5.out HB5.out.size HB6.out⟩
    · have hn0 : n = 0 := by omega
      subst hn0
      have hq : trimF l = l.take 0 := by unfold trimF; rw [← HF.out, trimN]
      have HQ := Hd.mk hq
      clear hq
      have HR := Hd.mk (rc_take (RC.below HV.out HB.out) 0 0 (by omega) (Nat.le_refl _) (by omega))
      go_wp2_with (go_at_call 20; refine (cloneC_calls _ _ _ (by exact HR.out) (by simp)).mono ?_; rintro e w6 ⟨v6, rfl, ho6, hb6⟩; have HO6 := Hd.mk ho6; have HB6 := Hd.mk hb6; clear ho6 hb6)
      rw [Exit.noGoto_ret]
      exact bodyPost_ret (v := v6) (by simp [results, Tryd.results21, go_sem]) rfl ⟨v6, rfl, by rw [HQ.out]; exact OC.mono HO6.out HB.out.size, below_then HB.out HB.out.size HB6.out⟩
end Go.Proofs.YthpfhlhoekgpjaaDoor
