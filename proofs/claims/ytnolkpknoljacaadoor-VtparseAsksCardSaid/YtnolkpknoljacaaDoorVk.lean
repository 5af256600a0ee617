/- The reference's Same. -/
import Derived.Test.YtnolkpknoljacaaDoorVj
set_option linter.unusedVariables false
set_option linter.unusedSimpArgs false
namespace Go.Proofs.YtnolkpknoljacaaDoor
open Go.RowKit

theorem two_new (w : World) (x y : Obj) : ((w.alloc x).alloc y).drew.heap[w.heap.size]? = some x ∧ ((w.alloc x).alloc y).drew.heap[w.heap.size + 1]? = some y ∧ Below w.heap.size w ((w.alloc x).alloc y).drew := by
  refine ⟨heap_at (heap_alloc_new w x), ?_, ?_⟩
  · have := heap_alloc_new (w.alloc x) y
    show ((w.alloc x).alloc y).heap[w.heap.size + 1]? = some y
    simpa using this
  · exact (((Below.refl _ _).alloc (Nat.le_refl _) _).alloc (by simp) _).drew

set_option maxRecDepth 100000 in
set_option maxHeartbeats 8000000 in
theorem rsame_calls (v u : Value) (xs ys : List (AV × List Int)) (w : World) (hv : RAct w v xs) (hu : RAct w u ys) :
    Calls Tryd.prog 11 #[v, u] w fun e w' => e = .returned (.bool (actsEq xs ys)) ∧ Below w.heap.size w w' := by
  have HV := Hd.mk hv
  have HU := Hd.mk hu
  obtain ⟨A, c, rfl, hn1, hn2⟩ := hv.slice
  obtain ⟨B, d, rfl, -, -⟩ := hu.slice
  clear hv hu
  by_cases hl : xs.length = ys.length
  · have HL := Hd.mk hl
    have hlb : ((xs.length : Int) != (ys.length : Int)) = false := by rw [hl]; simp
    clear hl
    go_enter Tryd.func11, Tryd.ntmps11
    go_wp2_with fail
    clear hlb
    go_loopg [5] xs.length (fun gk i wr => ∃ k : Nat, k + gk = xs.length ∧ i = .int .i64 k ∧ Hd (actsEq xs ys = actsEq (xs.drop k) (ys.drop k)) ∧ Hd (Below w.heap.size w wr))
    case atStart => exact ⟨0, by omega, rfl, ⟨rfl⟩, ⟨Below.refl _ _⟩⟩
    case round =>
      obtain ⟨k, hk, rfl, HF, HB⟩ := hrel
      by_cases hlt : k < xs.length
      · have hlt2 : k < ys.length := by rw [← HL.out]; exact hlt
        have HS := Hd.mk (eqAll_drop actEq xs ys k hlt hlt2)
        obtain ⟨b1, o1, c1, hv, k1, k2, hbl1, p0, p1, p2, p3, p4, p5, p6, HR1⟩ := RAct.at_ (HV.out.below HB.out) hlt
        have hm : xs.length ≤ 9223372036854775807 := Nat.le_trans k1 (by unfold maxLen at k2; omega)
        clear k1 k2
        injection hv with hv1 hv2 hv3
        clear hv2
        subst hv1 hv3
        obtain ⟨b2, o2, c2, hv, -, -, hbl2, q0, q1, q2, q3, q4, q5, q6, HR2⟩ := RAct.at_ (HU.out.below HB.out) hlt2
        injection hv with hv1 hv2 hv3
        clear hv2
        subst hv1 hv3
        generalize xs[k] = x at *
        generalize ys[k] = y at *
        obtain ⟨x, xl⟩ := x
        obtain ⟨y, yl⟩ := y
        simp only at p0 p1 p2 p3 p4 p5 p6 q0 q1 q2 q3 q4 q5 q6
        obtain ⟨Ax, cx, hxp, hxm1, hxm2, -⟩ := id HR1.out
        have hxm : xl.length ≤ 9223372036854775807 := Nat.le_trans hxm1 (by unfold maxLen at hxm2; omega)
        clear hxm1 hxm2
        obtain ⟨Ay, cy, hyp, -⟩ := id HR2.out
        simp only at hxp hyp
        rw [hxp] at p4
        rw [hyp] at q4
        have HXP := Hd.mk hxp
        have HYP := Hd.mk hyp
        clear hxp hyp
        have HA := Hd.mk (two_new wr (.cells #[.int .i64 x.k, .int .i32 x.r, .int .u8 x.f, .int .u8 x.p, .slice Ax xl.length cx, .string x.i, .string x.t] 29) (.cells #[.int .i64 y.k, .int .i32 y.r, .int .u8 y.f, .int .u8 y.p, .slice Ay yl.length cy, .string y.i, .string y.t] 29))
        have HA2 := Hd.mk (two_new wr (.cells #[.int .i64 y.k, .int .i32 y.r, .int .u8 y.f, .int .u8 y.p, .slice Ay yl.length cy, .string y.i, .string y.t] 29) (.cells #[.int .i64 x.k, .int .i32 x.r, .int .u8 x.f, .int .u8 x.p, .slice Ax xl.length cx, .string x.i, .string x.t] 29))
        go_upto_region 6 with (fail)
        go_cut [6, 7] (fun s t w' => ∃ cx1 cy1 : Nat, s = .pointer (some ⟨cx1, 0, none⟩) ∧ t = .pointer (some ⟨cy1, 0, none⟩) ∧ Hd (w'.heap[cx1]? = some (.cells #[.int .i64 x.k, .int .i32 x.r, .int .u8 x.f, .int .u8 x.p, .slice Ax xl.length cx, .string x.i, .string x.t] 29 (0, 0)) ∧ w'.heap[cy1]? = some (.cells #[.int .i64 y.k, .int .i32 y.r, .int .u8 y.f, .int .u8 y.p, .slice Ay yl.length cy, .string y.i, .string y.t] 29 (0, 0)) ∧ Below wr.heap.size wr w'))
        case first =>
          go_region_law (fail)
          all_goals (go_wp2_with fail; go_meet; first | exact ⟨_, _, rfl, rfl, ⟨HA.out.1, HA.out.2.1, HA.out.2.2⟩⟩ | exact ⟨_, _, rfl, rfl, ⟨HA2.out.2.1, HA2.out.1, HA2.out.2.2⟩⟩)
        case rest =>
        obtain ⟨cx1, cy1, rfl, rfl, HC⟩ := hcut
        clear p0 p1 p2 p3 p4 p5 p6 q0 q1 q2 q3 q4 q5 q6
        have a0 : wc.cell? ⟨cx1, 0, none⟩ = some (.int .i64 x.k) := by rw [blk_cell HC.out.1]; rfl
        have a1 : wc.cell? ⟨cx1, 1, none⟩ = some (.int .i32 x.r) := by rw [blk_cell HC.out.1]; rfl
        have a2 : wc.cell? ⟨cx1, 2, none⟩ = some (.int .u8 x.f) := by rw [blk_cell HC.out.1]; rfl
        have a3 : wc.cell? ⟨cx1, 3, none⟩ = some (.int .u8 x.p) := by rw [blk_cell HC.out.1]; rfl
        have a4o : wc.cell? ⟨cx1, 4, none⟩ = some (.slice Ax xl.length cx) := by rw [blk_cell HC.out.1]; rfl
        have a5 : wc.cell? ⟨cx1, 5, none⟩ = some (.string x.i) := by rw [blk_cell HC.out.1]; rfl
        have a6 : wc.cell? ⟨cx1, 6, none⟩ = some (.string x.t) := by rw [blk_cell HC.out.1]; rfl
        have b0 : wc.cell? ⟨cy1, 0, none⟩ = some (.int .i64 y.k) := by rw [blk_cell HC.out.2.1]; rfl
        have b1' : wc.cell? ⟨cy1, 1, none⟩ = some (.int .i32 y.r) := by rw [blk_cell HC.out.2.1]; rfl
        have b2' : wc.cell? ⟨cy1, 2, none⟩ = some (.int .u8 y.f) := by rw [blk_cell HC.out.2.1]; rfl
        have b3 : wc.cell? ⟨cy1, 3, none⟩ = some (.int .u8 y.p) := by rw [blk_cell HC.out.2.1]; rfl
        have b4o : wc.cell? ⟨cy1, 4, none⟩ = some (.slice Ay yl.length cy) := by rw [blk_cell HC.out.2.1]; rfl
        have b5 : wc.cell? ⟨cy1, 5, none⟩ = some (.string y.i) := by rw [blk_cell HC.out.2.1]; rfl
        have b6 : wc.cell? ⟨cy1, 6, none⟩ = some (.string y.t) := by rw [blk_cell HC.out.2.1]; rfl
        have HBC := Hd.mk (below_next HB.out HC.out.2.2)
        have HX2 : Hd (RJ wc (.slice Ax xl.length cx) xl) := ⟨by rw [← HXP.out]; exact Rd.below HR1.out HC.out.2.2⟩
        have HY2 : Hd (RJ wc (.slice Ay yl.length cy) yl) := ⟨by rw [← HYP.out]; exact Rd.below HR2.out HC.out.2.2⟩
        cases hk : (x.k == y.k) with
        | false =>
          have HFE := Hd.mk (show actEq (x, xl) (y, yl) = false by simp [actEq, hk])
          have nk : (x.k != y.k) = true := by simp [bne, hk]
          go_wp2_with fail
          go_ret
          exact ⟨by rw [HF.out, actsEq, HS.out, HFE.out, Bool.false_and]; rfl, HBC.out⟩
        | true =>
          have nk : (x.k != y.k) = false := by simp [bne, hk]
          cases hr : (x.r == y.r) with
          | false =>
            have HFE := Hd.mk (show actEq (x, xl) (y, yl) = false by simp [actEq, hr])
            have nr : (x.r != y.r) = true := by simp [bne, hr]
            go_wp2_with fail
            go_ret
            exact ⟨by rw [HF.out, actsEq, HS.out, HFE.out, Bool.false_and]; rfl, HBC.out⟩
          | true =>
            have nr : (x.r != y.r) = false := by simp [bne, hr]
            cases hf : (x.f == y.f) with
            | false =>
              have HFE := Hd.mk (show actEq (x, xl) (y, yl) = false by simp [actEq, hf])
              have nf : (x.f != y.f) = true := by simp [bne, hf]
              go_wp2_with fail
              go_ret
              exact ⟨by rw [HF.out, actsEq, HS.out, HFE.out, Bool.false_and]; rfl, HBC.out⟩
            | true =>
              have nf : (x.f != y.f) = false := by simp [bne, hf]
              cases hp : (x.p == y.p) with
              | false =>
                have HFE := Hd.mk (show actEq (x, xl) (y, yl) = false by simp [actEq, hp])
                have np : (x.p != y.p) = true := by simp [bne, hp]
                go_wp2_with fail
                go_ret
                exact ⟨by rw [HF.out, actsEq, HS.out, HFE.out, Bool.false_and]; rfl, HBC.out⟩
              | true =>
                have np : (x.p != y.p) = false := by simp [bne, hp]
                cases hi : (x.i.toList == y.i.toList) with
                | false =>
                  have HFE := Hd.mk (show actEq (x, xl) (y, yl) = false by simp [actEq, hi])
                  have ni : (!(x.i.toList == y.i.toList)) = true := by rw [hi]; rfl
                  go_wp2_with fail
                  go_ret
                  exact ⟨by rw [HF.out, actsEq, HS.out, HFE.out, Bool.false_and]; rfl, HBC.out⟩
                | true =>
                  have ni : (!(x.i.toList == y.i.toList)) = false := by rw [hi]; rfl
                  cases ht : (x.t.toList == y.t.toList) with
                  | false =>
                    have HFE := Hd.mk (show actEq (x, xl) (y, yl) = false by simp [actEq, ht])
                    have nt : (!(x.t.toList == y.t.toList)) = true := by rw [ht]; rfl
                    go_wp2_with fail
                    go_ret
                    exact ⟨by rw [HF.out, actsEq, HS.out, HFE.out, Bool.false_and]; rfl, HBC.out⟩
                  | true =>
                    have nt : (!(x.t.toList == y.t.toList)) = false := by rw [ht]; rfl
                    have HE := Hd.mk (show actEq (x, xl) (y, yl) = intsEq xl yl by simp only [actEq, hk, hr, hf, hp, hi, ht, Bool.true_and])
                    clear hk hr hf hp hi ht
                    by_cases hll : xl.length = yl.length
                    · have HLL := Hd.mk hll
                      have hlb : ((xl.length : Int) != (yl.length : Int)) = false := by rw [hll]; simp
                      clear hll
                      obtain ⟨go, hgo⟩ : ∃ n, n = gk := ⟨_, rfl⟩
                      subst hgo
                      obtain ⟨wo, rfl⟩ : ∃ x, x = wc := ⟨_, rfl⟩
                      go_wp2_with fail
                      clear hlb nk nr nf np ni nt
                      go_loopg [8] xl.length (fun gk i wr2 => ∃ j : Nat, j + gk = xl.length ∧ i = .int .i64 j ∧ Hd (intsEq xl yl = intsEq (xl.drop j) (yl.drop j)) ∧ Hd (Below wo.heap.size wo wr2))
                      case atStart => exact ⟨0, by omega, rfl, ⟨rfl⟩, ⟨Below.refl _ _⟩⟩
                      case round =>
                        obtain ⟨j, hj, rfl, HJ, HBJ⟩ := hrel
                        have a4 : wr.cell? ⟨cx1, 4, none⟩ = some (.slice Ax xl.length cx) := below_cell HBJ.out a4o
                        have b4 : wr.cell? ⟨cy1, 4, none⟩ = some (.slice Ay yl.length cy) := below_cell HBJ.out b4o
                        by_cases hjl : j < xl.length
                        · have hjl2 : j < yl.length := by rw [← HLL.out]; exact hjl
                          have HSJ := Hd.mk (eqAll_drop intEq xl yl j hjl hjl2)
                          obtain ⟨d1, e1, f1, hv, -, -, -, hc1⟩ := RJ.at_ (Rd.below HX2.out HBJ.out) hjl
                          injection hv with hv1 hv2 hv3
                          clear hv2
                          subst hv1 hv3
                          obtain ⟨d2, e2, f2, hv, -, -, -, hc2⟩ := RJ.at_ (Rd.below HY2.out HBJ.out) hjl2
                          injection hv with hv1 hv2 hv3
                          clear hv2
                          subst hv1 hv3
                          have g1 := hc1 j hjl
                          have g2 := hc2 j hjl2
                          clear hc1 hc2
                          generalize xl[j] = u at *
                          generalize yl[j] = v at *
                          cases huv : intEq u v with
                          | true =>
                            have ht : (u != v) = false := by simpa [intEq, bne] using huv
                            have HEJ := Hd.mk huv
                            clear huv
                            go_upto_region 12 with (fail)
                            go_quiet (fail)
                            go_wp2_with fail
                            go_roundg (gk - 1)
                            case measure => omega
                            case rel => exact ⟨j + 1, by omega, by go_num, ⟨by rw [HJ.out, intsEq, HSJ.out, HEJ.out, Bool.true_and]⟩, ⟨below_next HBJ.out (quiet_below _)⟩⟩
                          | false =>
                            have ht : (u != v) = true := by simpa [intEq, bne] using huv
                            have HEJ := Hd.mk huv
                            have HFE := Hd.mk (show actEq (x, xl) (y, yl) = false by rw [HE.out, HJ.out, intsEq, HSJ.out, HEJ.out, Bool.false_and])
                            clear huv
                            go_upto_region 12 with (fail)
                            go_quiet (fail)
                            go_wp2_with fail
                            go_ret
                            exact ⟨by rw [HF.out, actsEq, HS.out, HFE.out, Bool.false_and]; rfl, below_next HBC.out (below_next HBJ.out (quiet_below _))⟩
                        · have h1 : xl.drop j = [] := List.drop_of_length_le (by omega)
                          have h2 : yl.drop j = [] := List.drop_of_length_le (by have := HLL.out; omega)
                          have HFE := Hd.mk (show actEq (x, xl) (y, yl) = true by rw [HE.out, HJ.out, h1, h2]; rfl)
                          clear h1 h2
                          go_wp2_with fail
                          go_roundg (go - 1)
                          case measure => omega
                          case rel => exact ⟨k + 1, by omega, by go_num, ⟨by rw [HF.out, actsEq, HS.out, HFE.out, Bool.true_and]⟩, ⟨below_next HBC.out HBJ.out⟩⟩
                    · have hlb : ((xl.length : Int) != (yl.length : Int)) = true := by simp; omega
                      have HFE := Hd.mk (show actEq (x, xl) (y, yl) = false by rw [HE.out]; exact eqAll_len intEq xl yl hll)
                      clear hll
                      go_wp2_with fail
                      go_ret
                      exact ⟨by rw [HF.out, actsEq, HS.out, HFE.out, Bool.false_and]; rfl, HBC.out⟩
      · have h1 : xs.drop k = [] := List.drop_of_length_le (by omega)
        have h2 : ys.drop k = [] := List.drop_of_length_le (by have := HL.out; omega)
        have HE := Hd.mk (show actsEq (xs.drop k) (ys.drop k) = true by rw [h1, h2]; rfl)
        clear h1 h2
        go_wp2_with fail
        go_ret
        exact ⟨by rw [HF.out, HE.out]; rfl, HB.out⟩
  · have hlb : ((xs.length : Int) != (ys.length : Int)) = true := by simp; omega
    have HE := Hd.mk (eqAll_len actEq xs ys hl)
    clear hl
    go_enter Tryd.func11, Tryd.ntmps11
    go_wp2_with fail
    go_ret
    exact ⟨by rw [actsEq, HE.out]; rfl, Below.refl _ _⟩
end Go.Proofs.YtnolkpknoljacaaDoor
