/- The reference's Same. -/
import Derived.Test.YthpfhlhoekgpjaaDoorRt
import Derived.Test.YthpfhlhoekgpjaaDoorSp
set_option linter.unusedVariables false
set_option linter.unusedSimpArgs false
namespace Go.Proofs.YthpfhlhoekgpjaaDoor
open Go.RowKit

theorem refSame_false (xs ys : List (List Cell)) {k : Nat} (hk : k < max xs.length ys.length) (h : cellsEqB (trimF (cellsAt xs k)) (trimF (cellsAt ys k)) = false) (r1 c1 r2 c2 : Int) : refSameF xs ys r1 c1 r2 c2 = false := by
  have : refSameRows xs ys (max xs.length ys.length) = false := by
    cases hh : refSameRows xs ys (max xs.length ys.length) with
    | false => rfl
    | true =>
      have := (refSameRows_iff xs ys _).1 hh k hk
      rw [(cellsEqB_iff _ _).2 this] at h
      cases h
  rw [refSameF, this]; rfl

set_option maxRecDepth 100000 in
set_option maxHeartbeats 8000000 in
theorem rsame_calls (v u : Value) (xs ys : List (List Cell)) (r1 c1 a1 r2 c2 a2 : Int) (w : World) (hv : RR w v xs) (hu : RR w u ys) (hn : xs.length ≤ 1000000000) (hm : ys.length ≤ 1000000000) (hs : ∀ l ∈ xs, l.length * 32 ≤ 140737488355328) (ht : ∀ l ∈ ys, l.length * 32 ≤ 140737488355328) :
    Calls Tryd.prog 27 #[.agg #[v, .int .i64 r1, .int .i64 c1, .int .i64 a1], .agg #[u, .int .i64 r2, .int .i64 c2, .int .i64 a2]] w fun e w' => e = .returned (.bool (refSameF xs ys r1 c1 r2 c2)) ∧ Below w.heap.size w w' := by
  have HV := Hd.mk hv
  have HU := Hd.mk hu
  have HSX := Hd.mk hs
  have HSY := Hd.mk ht
  obtain ⟨A, c, rfl, -, -⟩ := hv.slice
  obtain ⟨B, d, rfl, -, -⟩ := hu.slice
  clear hv hu hs ht
  have hgd : Tryd.prog.eqGuardType Tryd.prog.depth 27 = false := by kernel_rfl
  have HEQ := Hd.mk (fun w : World => eql27 w r1 r2 c1 c2)
  have HB0 := Hd.mk (show Below w.heap.size w ((w.alloc (.cells #[.slice A xs.length c, .int .i64 r1, .int .i64 c1, .int .i64 a1] 29)).alloc (.cells #[.slice B ys.length d, .int .i64 r2, .int .i64 c2, .int .i64 a2] 29)) from ((Below.refl _ _).alloc (Nat.le_refl _) _).alloc (by simp) _)
  have HX0 := Hd.mk (show ((w.alloc (.cells #[.slice A xs.length c, .int .i64 r1, .int .i64 c1, .int .i64 a1] 29)).alloc (.cells #[.slice B ys.length d, .int .i64 r2, .int .i64 c2, .int .i64 a2] 29)).heap[w.heap.size]? = some (.cells #[.slice A xs.length c, .int .i64 r1, .int .i64 c1, .int .i64 a1] 29 (0, 0)) from heap_at (heap_alloc_new _ _))
  have HY0 := Hd.mk (show ((w.alloc (.cells #[.slice A xs.length c, .int .i64 r1, .int .i64 c1, .int .i64 a1] 29)).alloc (.cells #[.slice B ys.length d, .int .i64 r2, .int .i64 c2, .int .i64 a2] 29)).heap[w.heap.size + 1]? = some (.cells #[.slice B ys.length d, .int .i64 r2, .int .i64 c2, .int .i64 a2] 29 (0, 0)) from by
    have := heap_alloc_new (w.alloc (.cells #[.slice A xs.length c, .int .i64 r1, .int .i64 c1, .int .i64 a1] 29)) (.cells #[.slice B ys.length d, .int .i64 r2, .int .i64 c2, .int .i64 a2] 29)
    simpa using this)
  go_enter Tryd.func27, Tryd.ntmps27
  go_wp2_with fail
  generalize (w.alloc (.cells #[.slice A xs.length c, .int .i64 r1, .int .i64 c1, .int .i64 a1] 29)).alloc (.cells #[.slice B ys.length d, .int .i64 r2, .int .i64 c2, .int .i64 a2] 29) = w2 at *
  go_loopg [5] (max xs.length ys.length) (fun gk i wr => ∃ k : Nat, k + gk = max xs.length ys.length ∧ i = .int .i64 k ∧ Hd (refSameRows xs ys k = true) ∧ Hd (Below w2.heap.size w2 wr))
  case atStart => exact ⟨0, by omega, rfl, ⟨rfl⟩, ⟨Below.refl _ _⟩⟩
  case round =>
    obtain ⟨k, hk, rfl, HF, HB⟩ := hrel
    have HBW := Hd.mk (below_next HB0.out HB.out)
    have HX := Hd.mk (box_touch HX0.out (Touch.of_below (S := fun _ => False) HB.out) id)
    have HY := Hd.mk (box_touch HY0.out (Touch.of_below (S := fun _ => False) HB.out) id)
    have x0 : wr.cell? ⟨w.heap.size, 0, none⟩ = some (.slice A xs.length c) := by rw [blk_cell HX.out]; rfl
    have y0 : wr.cell? ⟨w.heap.size + 1, 0, none⟩ = some (.slice B ys.length d) := by rw [blk_cell HY.out]; rfl
    by_cases hx : k < xs.length
    · have hxd : decide (k < xs.length) = true := by simpa using hx
      have hkm : k < max xs.length ys.length := by omega
      by_cases hy : k < ys.length
      · have hyd : decide (k < ys.length) = true := by simpa using hy
        obtain ⟨b1, o1, d1, A1, a1, hv, -, -, hcx, HRX⟩ := RR.at_ (HV.out.below HBW.out) hx
        injection hv with hv1 hv2 hv3
        clear hv2
        subst hv1 hv3
        have HLX := Hd.mk (HSX.out xs[k] (List.getElem_mem _))
        have HAX := Hd.mk (show cellsAt xs k = xs[k] by simp [cellsAt, List.getD, hx])
        obtain ⟨b2, o2, d2, A2, a2, hv, -, -, hcy, HRY⟩ := RR.at_ (HU.out.below HBW.out) hy
        injection hv with hv1 hv2 hv3
        clear hv2
        subst hv1 hv3
        have HLY := Hd.mk (HSY.out ys[k] (List.getElem_mem _))
        have HAY := Hd.mk (show cellsAt ys k = ys[k] by simp [cellsAt, List.getD, hy])
        generalize xs[k] = X at *
        generalize ys[k] = Y at *
        go_upto_region 9 with (fail)
        cases hb : cellsEqB (trimF X) (trimF Y) with
        | true =>
          have HS := Hd.mk (show refSameRows xs ys (k + 1) = true by rw [refSameRows, HF.out, HAX.out, HAY.out, hb]; rfl)
          clear hb hcx hcy
          have HB1 := Hd.mk (show cellsEqB (trimF X) (trimF Y) = true by have := HS.out; rw [refSameRows, HF.out, HAX.out, HAY.out, Bool.true_and] at this; exact this)
          go_wp2_with fail
          refine (sameRow_calls _ _ X Y wr HRX.out HRY.out HLX.out HLY.out).mono ?_
          rw [HB1.out]
          rintro e w4 ⟨rfl, hb4⟩
          have HB4 := Hd.mk (below_next HB.out hb4)
          clear hb4
          go_wp2_with fail
          go_roundg (gk - 1)
          case measure => omega
          case rel => exact ⟨k + 1, by omega, by go_num, HS, HB4⟩
        | false =>
          have HS := Hd.mk (refSame_false xs ys (k := k) hkm (by rw [HAX.out, HAY.out]; exact hb) r1 c1 r2 c2)
          have HB1 := Hd.mk hb
          clear hb hcx hcy
          go_wp2_with fail
          refine (sameRow_calls _ _ X Y wr HRX.out HRY.out HLX.out HLY.out).mono ?_
          rw [HB1.out]
          rintro e w4 ⟨rfl, hb4⟩
          have HB4 := Hd.mk (below_next HB.out hb4)
          clear hb4
          go_wp2_with fail
          go_ret
          exact ⟨by rw [HS.out]; rfl, below_next HB0.out HB4.out⟩
      · have hyd : decide (k < ys.length) = false := by simpa using hy
        obtain ⟨b1, o1, d1, A1, a1, hv, -, -, hcx, HRX⟩ := RR.at_ (HV.out.below HBW.out) hx
        injection hv with hv1 hv2 hv3
        clear hv2
        subst hv1 hv3
        have HLX := Hd.mk (HSX.out xs[k] (List.getElem_mem _))
        have HAX := Hd.mk (show cellsAt xs k = xs[k] by simp [cellsAt, List.getD, hx])
        have HRY : Hd (RC wr (.slice none 0 0) []) := ⟨⟨none, 0, rfl, Nat.le_refl _, Nat.zero_le _, .inl rfl⟩⟩
        have HLY : Hd (([] : List Cell).length * 32 ≤ 140737488355328) := ⟨by simp⟩
        have HAY := Hd.mk (show cellsAt ys k = [] by unfold cellsAt; simp only [List.getD]; rw [List.getElem?_eq_none (by omega)]; rfl)
        have hcy : True := trivial
        generalize xs[k] = X at *
        go_upto_region 9 with (fail)
        cases hb : cellsEqB (trimF X) (trimF []) with
        | true =>
          have HS := Hd.mk (show refSameRows xs ys (k + 1) = true by rw [refSameRows, HF.out, HAX.out, HAY.out, hb]; rfl)
          clear hb hcx hcy
          have HB1 := Hd.mk (show cellsEqB (trimF X) (trimF []) = true by have := HS.out; rw [refSameRows, HF.out, HAX.out, HAY.out, Bool.true_and] at this; exact this)
          go_wp2_with fail
          refine (sameRow_calls _ _ X [] wr HRX.out HRY.out HLX.out HLY.out).mono ?_
          rw [HB1.out]
          rintro e w4 ⟨rfl, hb4⟩
          have HB4 := Hd.mk (below_next HB.out hb4)
          clear hb4
          go_wp2_with fail
          go_roundg (gk - 1)
          case measure => omega
          case rel => exact ⟨k + 1, by omega, by go_num, HS, HB4⟩
        | false =>
          have HS := Hd.mk (refSame_false xs ys (k := k) hkm (by rw [HAX.out, HAY.out]; exact hb) r1 c1 r2 c2)
          have HB1 := Hd.mk hb
          clear hb hcx hcy
          go_wp2_with fail
          refine (sameRow_calls _ _ X [] wr HRX.out HRY.out HLX.out HLY.out).mono ?_
          rw [HB1.out]
          rintro e w4 ⟨rfl, hb4⟩
          have HB4 := Hd.mk (below_next HB.out hb4)
          clear hb4
          go_wp2_with fail
          go_ret
          exact ⟨by rw [HS.out]; rfl, below_next HB0.out HB4.out⟩
    · have hxd : decide (k < xs.length) = false := by simpa using hx
      by_cases hy : k < ys.length
      · have hyd : decide (k < ys.length) = true := by simpa using hy
        have hkm : k < max xs.length ys.length := by omega
        have HRX : Hd (RC wr (.slice none 0 0) []) := ⟨⟨none, 0, rfl, Nat.le_refl _, Nat.zero_le _, .inl rfl⟩⟩
        have HLX : Hd (([] : List Cell).length * 32 ≤ 140737488355328) := ⟨by simp⟩
        have HAX := Hd.mk (show cellsAt xs k = [] by unfold cellsAt; simp only [List.getD]; rw [List.getElem?_eq_none (by omega)]; rfl)
        have hcx : True := trivial
        obtain ⟨b2, o2, d2, A2, a2, hv, -, -, hcy, HRY⟩ := RR.at_ (HU.out.below HBW.out) hy
        injection hv with hv1 hv2 hv3
        clear hv2
        subst hv1 hv3
        have HLY := Hd.mk (HSY.out ys[k] (List.getElem_mem _))
        have HAY := Hd.mk (show cellsAt ys k = ys[k] by simp [cellsAt, List.getD, hy])
        generalize ys[k] = Y at *
        go_upto_region 9 with (fail)
        cases hb : cellsEqB (trimF []) (trimF Y) with
        | true =>
          have HS := Hd.mk (show refSameRows xs ys (k + 1) = true by rw [refSameRows, HF.out, HAX.out, HAY.out, hb]; rfl)
          clear hb hcx hcy
          have HB1 := Hd.mk (show cellsEqB (trimF []) (trimF Y) = true by have := HS.out; rw [refSameRows, HF.out, HAX.out, HAY.out, Bool.true_and] at this; exact this)
          go_wp2_with fail
          refine (sameRow_calls _ _ [] Y wr HRX.out HRY.out HLX.out HLY.out).mono ?_
          rw [HB1.out]
          rintro e w4 ⟨rfl, hb4⟩
          have HB4 := Hd.mk (below_next HB.out hb4)
          clear hb4
          go_wp2_with fail
          go_roundg (gk - 1)
          case measure => omega
          case rel => exact ⟨k + 1, by omega, by go_num, HS, HB4⟩
        | false =>
          have HS := Hd.mk (refSame_false xs ys (k := k) hkm (by rw [HAX.out, HAY.out]; exact hb) r1 c1 r2 c2)
          have HB1 := Hd.mk hb
          clear hb hcx hcy
          go_wp2_with fail
          refine (sameRow_calls _ _ [] Y wr HRX.out HRY.out HLX.out HLY.out).mono ?_
          rw [HB1.out]
          rintro e w4 ⟨rfl, hb4⟩
          have HB4 := Hd.mk (below_next HB.out hb4)
          clear hb4
          go_wp2_with fail
          go_ret
          exact ⟨by rw [HS.out]; rfl, below_next HB0.out HB4.out⟩
      · have hyd : decide (k < ys.length) = false := by simpa using hy
        have x1 : wr.cell? ⟨w.heap.size, 1, none⟩ = some (.int .i64 r1) := by rw [blk_cell HX.out]; rfl
        have x2 : wr.cell? ⟨w.heap.size, 2, none⟩ = some (.int .i64 c1) := by rw [blk_cell HX.out]; rfl
        have y1 : wr.cell? ⟨w.heap.size + 1, 1, none⟩ = some (.int .i64 r2) := by rw [blk_cell HY.out]; rfl
        have y2 : wr.cell? ⟨w.heap.size + 1, 2, none⟩ = some (.int .i64 c2) := by rw [blk_cell HY.out]; rfl
        have HS := Hd.mk (show refSameF xs ys r1 c1 r2 c2 = (r1 == r2 && (c1 == c2)) by rw [refSameF, show max xs.length ys.length = k by omega, HF.out, Bool.true_and])
        have heq := HEQ.out
        generalize (r1 == r2 && (c1 == c2)) = bb at *
        go_wp2_with fail
        go_ret
        exact ⟨by rw [HS.out]; rfl, HBW.out⟩
end Go.Proofs.YthpfhlhoekgpjaaDoor
