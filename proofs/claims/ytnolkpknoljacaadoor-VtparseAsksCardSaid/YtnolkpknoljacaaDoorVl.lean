/- VtparseAsks: the walk. -/
import Derived.Test.YtnolkpknoljacaaDoorVk
set_option linter.unusedVariables false
set_option linter.unusedSimpArgs false
namespace Go.Proofs.YtnolkpknoljacaaDoor
open Go.RowKit

theorem intsEq_refl (l : List Int) : intsEq l l = true := by
  unfold intsEq
  induction l with
  | nil => rfl
  | cons c l ih => rw [eqAll, ih]; simp [intEq]
theorem actEq_refl (x : AV × List Int) : actEq x x = true := by simp [actEq, intsEq_refl]
theorem actsEq_refl (l : List (AV × List Int)) : actsEq l l = true := by
  unfold actsEq
  induction l with
  | nil => rfl
  | cons c l ih => rw [eqAll, ih, actEq_refl]; rfl

set_option maxRecDepth 100000 in
set_option maxHeartbeats 8000000 in
theorem asks_calls (v u : Value) (xs ys : List (AV × List Int)) (qi qo : Int) (w : World) (hv : RAct w v xs) (hu : RAct w u ys) :
    Calls Tryd.prog 5 #[.agg #[v, u, .int .i64 qi, .int .i64 qo]] w fun e w' => e = .returned (.bool true) ∧ Below w.heap.size w w' := by
  have HV := Hd.mk hv
  have HU := Hd.mk hu
  obtain ⟨A, c, rfl, hn1, hn2⟩ := hv.slice
  obtain ⟨B, d, rfl, -, -⟩ := hu.slice
  have hm : xs.length ≤ 9223372036854775807 := Nat.le_trans hn1 (by unfold maxLen at hn2; omega)
  clear hv hu hn1 hn2
  have HB0 := Hd.mk (below_alloc1 w (.cells #[.slice A xs.length c, .slice B ys.length d, .int .i64 qi, .int .i64 qo] 41))
  have HX0 := Hd.mk (heap_alloc_new w (.cells #[.slice A xs.length c, .slice B ys.length d, .int .i64 qi, .int .i64 qo] 41))
  go_enter Tryd.func5, Tryd.ntmps5
  go_upto_region 1 with (fail)
  generalize w.alloc (.cells #[.slice A xs.length c, .slice B ys.length d, .int .i64 qi, .int .i64 qo] 41) = w0 at *
  have x0 : w0.cell? ⟨w.heap.size, 0, none⟩ = some (.slice A xs.length c) := by rw [blk_cell HX0.out]; rfl
  have x1 : w0.cell? ⟨w.heap.size, 1, none⟩ = some (.slice B ys.length d) := by rw [blk_cell HX0.out]; rfl
  go_quiet (fail)
  have HB1 := Hd.mk (below_next HB0.out (quiet_below (w := w0) nq))
  have HX1 : Hd ((w0.drewN nq).heap[w.heap.size]? = some (.cells #[.slice A xs.length c, .slice B ys.length d, .int .i64 qi, .int .i64 qo] 41 (0, 0))) := ⟨HX0.out⟩
  clear x0 x1
  generalize w0.drewN nq = w1 at *
  go_wp2_with fail
  go_loopg [13] xs.length (fun gk i wr => ∃ k : Nat, k + gk = xs.length ∧ i = .int .i64 k ∧ Hd (Below w1.heap.size w1 wr))
  case atStart => exact ⟨0, by omega, rfl, ⟨Below.refl _ _⟩⟩
  case round =>
    obtain ⟨k, hk, rfl, HB⟩ := hrel
    have HBW := Hd.mk (below_next HB1.out HB.out)
    have HX := Hd.mk (box_touch HX1.out (Touch.of_below (S := fun _ => False) HB.out) id)
    by_cases hlt : k < xs.length
    · obtain ⟨b1, o1, c1, hv, k1, k2, hbl1, p0, p1, p2, p3, p4, p5, p6, HR1⟩ := RAct.at_ (HV.out.below HBW.out) hlt
      clear k1 k2
      injection hv with hv1 hv2 hv3
      clear hv2
      subst hv1 hv3
      generalize xs[k] = x at *
      obtain ⟨x, xl⟩ := x
      simp only at p0 p1 p2 p3 p4 p5 p6
      obtain ⟨Ax, cx, hxp, -⟩ := id HR1.out
      simp only at hxp
      rw [hxp] at p4
      have HXP := Hd.mk hxp
      clear hxp
      have hx2 := below_alloc1 wr (.cells #[.int .i64 x.k, .int .i32 x.r, .int .u8 x.f, .int .u8 x.p, .slice Ax xl.length cx, .string x.i, .string x.t] 29)
      have HB2 := Hd.mk hx2
      have HY2 := Hd.mk (heap_alloc_new wr (.cells #[.int .i64 x.k, .int .i32 x.r, .int .u8 x.f, .int .u8 x.p, .slice Ax xl.length cx, .string x.i, .string x.t] 29))
      have HX2 := Hd.mk (box_touch HX.out (Touch.of_below (S := fun _ => False) hx2) id)
      have HR2 := Hd.mk (show RJ _ x.pv xl from Rd.below HR1.out hx2)
      clear hx2
      go_upto_region 5 with (fail)
      clear p0 p1 p2 p3 p4 p5 p6
      generalize wr.alloc (.cells #[.int .i64 x.k, .int .i32 x.r, .int .u8 x.f, .int .u8 x.p, .slice Ax xl.length cx, .string x.i, .string x.t] 29) = w2 at *
      have a0 : w2.cell? ⟨wr.heap.size, 0, none⟩ = some (.int .i64 x.k) := by rw [blk_cell HY2.out]; rfl
      have a1 : w2.cell? ⟨wr.heap.size, 1, none⟩ = some (.int .i32 x.r) := by rw [blk_cell HY2.out]; rfl
      have a2 : w2.cell? ⟨wr.heap.size, 2, none⟩ = some (.int .u8 x.f) := by rw [blk_cell HY2.out]; rfl
      have a3 : w2.cell? ⟨wr.heap.size, 3, none⟩ = some (.int .u8 x.p) := by rw [blk_cell HY2.out]; rfl
      have a4 : w2.cell? ⟨wr.heap.size, 4, none⟩ = some (.slice Ax xl.length cx) := by rw [blk_cell HY2.out]; rfl
      have a5 : w2.cell? ⟨wr.heap.size, 5, none⟩ = some (.string x.i) := by rw [blk_cell HY2.out]; rfl
      have a6 : w2.cell? ⟨wr.heap.size, 6, none⟩ = some (.string x.t) := by rw [blk_cell HY2.out]; rfl
      have q2 : w2.cell? ⟨w.heap.size, 2, none⟩ = some (.int .i64 qi) := by rw [blk_cell HX2.out]; rfl
      have q3 : w2.cell? ⟨w.heap.size, 3, none⟩ = some (.int .i64 qo) := by rw [blk_cell HX2.out]; rfl
      have HS := Hd.mk (show ∀ w', Below w2.heap.size w2 w' → w'.cell? ⟨wr.heap.size, 0, none⟩ = some (.int .i64 x.k) ∧ w'.cell? ⟨wr.heap.size, 1, none⟩ = some (.int .i32 x.r) ∧ w'.cell? ⟨wr.heap.size, 2, none⟩ = some (.int .u8 x.f) ∧ w'.cell? ⟨wr.heap.size, 3, none⟩ = some (.int .u8 x.p) ∧ w'.cell? ⟨wr.heap.size, 4, none⟩ = some (.slice Ax xl.length cx) ∧ w'.cell? ⟨wr.heap.size, 5, none⟩ = some (.string x.i) ∧ w'.cell? ⟨wr.heap.size, 6, none⟩ = some (.string x.t) ∧ w'.cell? ⟨w.heap.size, 2, none⟩ = some (.int .i64 qi) ∧ w'.cell? ⟨w.heap.size, 3, none⟩ = some (.int .i64 qo) from
        fun w' h => ⟨below_cell h a0, below_cell h a1, below_cell h a2, below_cell h a3, below_cell h a4, below_cell h a5, below_cell h a6, below_cell h q2, below_cell h q3⟩)
      have H17 := Hd.mk (fun wx (h : RJ wx x.pv xl) => param_calls x xl qi qo wx h)
      have H18 := Hd.mk (fun wx (h : RJ wx x.pv xl) => rparam_calls x xl qi qo wx h)
      have HRW := Hd.mk (show ∀ w', Below w2.heap.size w2 w' → RJ w' x.pv xl from fun w' h => Rd.below HR2.out h)
      rw [HXP.out] at H17 H18 HRW
      generalize paramF xl qi qo = z at *
      have hzz : (z != z) = false := by simp
      have hb0 : Below w2.heap.size w2 w2.drew := below_drew w2
      go_cut [29] (fun s w' => s = .bool false ∧ Hd (Below w2.heap.size w2 w'))
      case first =>
        go_region_held3 (fun w' => w'.cell? ⟨wr.heap.size, 0, none⟩ = some (.int .i64 x.k) ∧ w'.cell? ⟨wr.heap.size, 1, none⟩ = some (.int .i32 x.r) ∧ w'.cell? ⟨wr.heap.size, 2, none⟩ = some (.int .u8 x.f) ∧ w'.cell? ⟨wr.heap.size, 3, none⟩ = some (.int .u8 x.p) ∧ w'.cell? ⟨wr.heap.size, 4, none⟩ = some (.slice Ax xl.length cx) ∧ w'.cell? ⟨wr.heap.size, 5, none⟩ = some (.string x.i) ∧ w'.cell? ⟨wr.heap.size, 6, none⟩ = some (.string x.t) ∧ w'.cell? ⟨w.heap.size, 2, none⟩ = some (.int .i64 qi) ∧ w'.cell? ⟨w.heap.size, 3, none⟩ = some (.int .i64 qo))
          (first | exact HS.out _ hcN | exact HS.out _ hcM | go_keep)
          (first
            | (go_at_call 17; (with_reducible refine (H17.out _ ?_).mono ?_); (first | exact HRW.out _ hcN | exact HRW.out _ hb0); rintro e wM ⟨rfl, hbM⟩; have hcM : Below w2.heap.size w2 wM := (by first | exact below_next hcN hbM | exact undrew hbM))
            | (go_at_call 18; (with_reducible refine (H18.out _ ?_).mono ?_); (first | exact HRW.out _ hcM | exact HRW.out _ hb0); rintro e wN ⟨rfl, hbN⟩; have hcN : Below w2.heap.size w2 wN := (by first | exact below_next hcM hbN | exact undrew hbN)))
        all_goals
          go_wp2_with fail
          go_meet
          first | exact ⟨rfl, ⟨hcN⟩⟩ | exact ⟨rfl, ⟨hcM⟩⟩
      case rest =>
        obtain ⟨rfl, HC⟩ := hcut
        go_wp2_with fail
        go_roundg (gk - 1)
        case measure => omega
        case rel => exact ⟨k + 1, by omega, by go_num, ⟨below_next HB.out (below_next HB2.out HC.out)⟩⟩
    · have HSA := Hd.mk (fun wx (h : Below wr.heap.size wr wx) => same_calls _ _ xs ys wx (HV.out.below (below_next HBW.out h)) (HU.out.below (below_next HBW.out h)))
      have HSR := Hd.mk (fun wx (h : Below wr.heap.size wr wx) => rsame_calls _ _ xs ys wx (HV.out.below (below_next HBW.out h)) (HU.out.below (below_next HBW.out h)))
      have HSS := Hd.mk (fun wx (h : Below wr.heap.size wr wx) => same_calls _ _ xs xs wx (HV.out.below (below_next HBW.out h)) (HV.out.below (below_next HBW.out h)))
      rw [actsEq_refl] at HSS
      generalize actsEq xs ys = sb at *
      cases sb
      all_goals
        go_wp2_with fail
        refine (live_calls wr).mono ?_
        rintro e w2 ⟨rfl, hb2⟩
        have HC2 := Hd.mk hb2
        clear hb2
        go_wp2_with fail
        refine (HSA.out w2 HC2.out).mono ?_
        rintro e w3 ⟨rfl, hb3⟩
        have HC3 := Hd.mk (below_next HC2.out hb3)
        clear hb3
        go_wp2_with fail
        refine (HSR.out w3 HC3.out).mono ?_
        rintro e w4 ⟨rfl, hb4⟩
        have HC4 := Hd.mk (below_next HC3.out hb4)
        clear hb4
        go_wp2_with fail
        refine (HSS.out w4 HC4.out).mono ?_
        rintro e w5 ⟨rfl, hb5⟩
        have HC5 := Hd.mk (below_next HC4.out hb5)
        clear hb5
        go_wp2_with fail
        go_ret
        exact ⟨rfl, below_next HBW.out HC5.out⟩
end Go.Proofs.YtnolkpknoljacaaDoor
