/- vtparse.Same. -/
import Derived.Test.YtnolkpknoljacaaDoorVh
set_option linter.unusedVariables false
set_option linter.unusedSimpArgs false
namespace Go.Proofs.YtnolkpknoljacaaDoor
open Go.RowKit

def actEq (x y : AV × List Int) : Bool :=
  (x.1.k == y.1.k) && ((x.1.r == y.1.r) && ((x.1.f == y.1.f) && ((x.1.p == y.1.p) && ((x.1.i.toList == y.1.i.toList) && ((x.1.t.toList == y.1.t.toList) && intsEq x.2 y.2)))))
set_option maxRecDepth 100000 in
set_option maxHeartbeats 8000000 in
theorem actSame_calls (x y : AV) (xl yl : List Int) (w : World) (hx : RJ w x.pv xl) (hy : RJ w y.pv yl) :
    Calls Tryd.prog 31 #[.agg #[.int .i64 x.k, .int .i32 x.r, .int .u8 x.f, .int .u8 x.p, x.pv, .string x.i, .string x.t], .agg #[.int .i64 y.k, .int .i32 y.r, .int .u8 y.f, .int .u8 y.p, y.pv, .string y.i, .string y.t]] w fun e w' => e = .returned (.bool (actEq (x, xl) (y, yl))) ∧ Below w.heap.size w w' := by
  have HX := Hd.mk hx
  have HY := Hd.mk hy
  obtain ⟨A, c, hxp, -⟩ := hx
  obtain ⟨B, d, hyp, -⟩ := hy
  rw [hxp] at HX
  rw [hyp] at HY
  rw [hxp, hyp]
  clear hxp hyp
  have HB0 := Hd.mk (show Below w.heap.size w ((w.alloc (.cells #[.int .i64 x.k, .int .i32 x.r, .int .u8 x.f, .int .u8 x.p, .slice A xl.length c, .string x.i, .string x.t] 29)).alloc (.cells #[.int .i64 y.k, .int .i32 y.r, .int .u8 y.f, .int .u8 y.p, .slice B yl.length d, .string y.i, .string y.t] 29)) from ((Below.refl _ _).alloc (Nat.le_refl _) _).alloc (by simp) _)
  have HX0 := Hd.mk (show ((w.alloc (.cells #[.int .i64 x.k, .int .i32 x.r, .int .u8 x.f, .int .u8 x.p, .slice A xl.length c, .string x.i, .string x.t] 29)).alloc (.cells #[.int .i64 y.k, .int .i32 y.r, .int .u8 y.f, .int .u8 y.p, .slice B yl.length d, .string y.i, .string y.t] 29)).heap[w.heap.size]? = some (.cells #[.int .i64 x.k, .int .i32 x.r, .int .u8 x.f, .int .u8 x.p, .slice A xl.length c, .string x.i, .string x.t] 29 (0, 0)) from heap_at (heap_alloc_new _ _))
  have HY0 := Hd.mk (show ((w.alloc (.cells #[.int .i64 x.k, .int .i32 x.r, .int .u8 x.f, .int .u8 x.p, .slice A xl.length c, .string x.i, .string x.t] 29)).alloc (.cells #[.int .i64 y.k, .int .i32 y.r, .int .u8 y.f, .int .u8 y.p, .slice B yl.length d, .string y.i, .string y.t] 29)).heap[w.heap.size + 1]? = some (.cells #[.int .i64 y.k, .int .i32 y.r, .int .u8 y.f, .int .u8 y.p, .slice B yl.length d, .string y.i, .string y.t] 29 (0, 0)) from by
    have := heap_alloc_new (w.alloc (.cells #[.int .i64 x.k, .int .i32 x.r, .int .u8 x.f, .int .u8 x.p, .slice A xl.length c, .string x.i, .string x.t] 29)) (.cells #[.int .i64 y.k, .int .i32 y.r, .int .u8 y.f, .int .u8 y.p, .slice B yl.length d, .string y.i, .string y.t] 29)
    simpa using this)
  cases hk : (x.k == y.k) with
  | false =>
    have HE := Hd.mk (show actEq (x, xl) (y, yl) = false by simp [actEq, hk])
    go_enter Tryd.func31, Tryd.ntmps31
    go_upto_region 1 with (fail)
    generalize (w.alloc (.cells #[.int .i64 x.k, .int .i32 x.r, .int .u8 x.f, .int .u8 x.p, .slice A xl.length c, .string x.i, .string x.t] 29)).alloc (.cells #[.int .i64 y.k, .int .i32 y.r, .int .u8 y.f, .int .u8 y.p, .slice B yl.length d, .string y.i, .string y.t] 29) = w2 at *
    have a0 : w2.cell? ⟨w.heap.size, 0, none⟩ = some (.int .i64 x.k) := by rw [blk_cell HX0.out]; rfl
    have b0 : w2.cell? ⟨w.heap.size + 1, 0, none⟩ = some (.int .i64 y.k) := by rw [blk_cell HY0.out]; rfl
    have a1 : w2.cell? ⟨w.heap.size, 1, none⟩ = some (.int .i32 x.r) := by rw [blk_cell HX0.out]; rfl
    have b1 : w2.cell? ⟨w.heap.size + 1, 1, none⟩ = some (.int .i32 y.r) := by rw [blk_cell HY0.out]; rfl
    have a2 : w2.cell? ⟨w.heap.size, 2, none⟩ = some (.int .u8 x.f) := by rw [blk_cell HX0.out]; rfl
    have b2 : w2.cell? ⟨w.heap.size + 1, 2, none⟩ = some (.int .u8 y.f) := by rw [blk_cell HY0.out]; rfl
    have a3 : w2.cell? ⟨w.heap.size, 3, none⟩ = some (.int .u8 x.p) := by rw [blk_cell HX0.out]; rfl
    have b3 : w2.cell? ⟨w.heap.size + 1, 3, none⟩ = some (.int .u8 y.p) := by rw [blk_cell HY0.out]; rfl
    have a4 : w2.cell? ⟨w.heap.size, 4, none⟩ = some (.slice A xl.length c) := by rw [blk_cell HX0.out]; rfl
    have b4 : w2.cell? ⟨w.heap.size + 1, 4, none⟩ = some (.slice B yl.length d) := by rw [blk_cell HY0.out]; rfl
    have a5 : w2.cell? ⟨w.heap.size, 5, none⟩ = some (.string x.i) := by rw [blk_cell HX0.out]; rfl
    have b5 : w2.cell? ⟨w.heap.size + 1, 5, none⟩ = some (.string y.i) := by rw [blk_cell HY0.out]; rfl
    have a6 : w2.cell? ⟨w.heap.size, 6, none⟩ = some (.string x.t) := by rw [blk_cell HX0.out]; rfl
    have b6 : w2.cell? ⟨w.heap.size + 1, 6, none⟩ = some (.string y.t) := by rw [blk_cell HY0.out]; rfl
    go_wp2_with fail
    go_ret
    exact ⟨by rw [HE.out]; rfl, HB0.out⟩
  | true =>
    cases hr : (x.r == y.r) with
    | false =>
      have HE := Hd.mk (show actEq (x, xl) (y, yl) = false by simp [actEq, hr])
      go_enter Tryd.func31, Tryd.ntmps31
      go_upto_region 1 with (fail)
      generalize (w.alloc (.cells #[.int .i64 x.k, .int .i32 x.r, .int .u8 x.f, .int .u8 x.p, .slice A xl.length c, .string x.i, .string x.t] 29)).alloc (.cells #[.int .i64 y.k, .int .i32 y.r, .int .u8 y.f, .int .u8 y.p, .slice B yl.length d, .string y.i, .string y.t] 29) = w2 at *
      have a0 : w2.cell? ⟨w.heap.size, 0, none⟩ = some (.int .i64 x.k) := by rw [blk_cell HX0.out]; rfl
      have b0 : w2.cell? ⟨w.heap.size + 1, 0, none⟩ = some (.int .i64 y.k) := by rw [blk_cell HY0.out]; rfl
      have a1 : w2.cell? ⟨w.heap.size, 1, none⟩ = some (.int .i32 x.r) := by rw [blk_cell HX0.out]; rfl
      have b1 : w2.cell? ⟨w.heap.size + 1, 1, none⟩ = some (.int .i32 y.r) := by rw [blk_cell HY0.out]; rfl
      have a2 : w2.cell? ⟨w.heap.size, 2, none⟩ = some (.int .u8 x.f) := by rw [blk_cell HX0.out]; rfl
      have b2 : w2.cell? ⟨w.heap.size + 1, 2, none⟩ = some (.int .u8 y.f) := by rw [blk_cell HY0.out]; rfl
      have a3 : w2.cell? ⟨w.heap.size, 3, none⟩ = some (.int .u8 x.p) := by rw [blk_cell HX0.out]; rfl
      have b3 : w2.cell? ⟨w.heap.size + 1, 3, none⟩ = some (.int .u8 y.p) := by rw [blk_cell HY0.out]; rfl
      have a4 : w2.cell? ⟨w.heap.size, 4, none⟩ = some (.slice A xl.length c) := by rw [blk_cell HX0.out]; rfl
      have b4 : w2.cell? ⟨w.heap.size + 1, 4, none⟩ = some (.slice B yl.length d) := by rw [blk_cell HY0.out]; rfl
      have a5 : w2.cell? ⟨w.heap.size, 5, none⟩ = some (.string x.i) := by rw [blk_cell HX0.out]; rfl
      have b5 : w2.cell? ⟨w.heap.size + 1, 5, none⟩ = some (.string y.i) := by rw [blk_cell HY0.out]; rfl
      have a6 : w2.cell? ⟨w.heap.size, 6, none⟩ = some (.string x.t) := by rw [blk_cell HX0.out]; rfl
      have b6 : w2.cell? ⟨w.heap.size + 1, 6, none⟩ = some (.string y.t) := by rw [blk_cell HY0.out]; rfl
      go_wp2_with fail
      go_ret
      exact ⟨by rw [HE.out]; rfl, HB0.out⟩
    | true =>
      cases hf : (x.f == y.f) with
      | false =>
        have HE := Hd.mk (show actEq (x, xl) (y, yl) = false by simp [actEq, hf])
        go_enter Tryd.func31, Tryd.ntmps31
        go_upto_region 1 with (fail)
        generalize (w.alloc (.cells #[.int .i64 x.k, .int .i32 x.r, .int .u8 x.f, .int .u8 x.p, .slice A xl.length c, .string x.i, .string x.t] 29)).alloc (.cells #[.int .i64 y.k, .int .i32 y.r, .int .u8 y.f, .int .u8 y.p, .slice B yl.length d, .string y.i, .string y.t] 29) = w2 at *
        have a0 : w2.cell? ⟨w.heap.size, 0, none⟩ = some (.int .i64 x.k) := by rw [blk_cell HX0.out]; rfl
        have b0 : w2.cell? ⟨w.heap.size + 1, 0, none⟩ = some (.int .i64 y.k) := by rw [blk_cell HY0.out]; rfl
        have a1 : w2.cell? ⟨w.heap.size, 1, none⟩ = some (.int .i32 x.r) := by rw [blk_cell HX0.out]; rfl
        have b1 : w2.cell? ⟨w.heap.size + 1, 1, none⟩ = some (.int .i32 y.r) := by rw [blk_cell HY0.out]; rfl
        have a2 : w2.cell? ⟨w.heap.size, 2, none⟩ = some (.int .u8 x.f) := by rw [blk_cell HX0.out]; rfl
        have b2 : w2.cell? ⟨w.heap.size + 1, 2, none⟩ = some (.int .u8 y.f) := by rw [blk_cell HY0.out]; rfl
        have a3 : w2.cell? ⟨w.heap.size, 3, none⟩ = some (.int .u8 x.p) := by rw [blk_cell HX0.out]; rfl
        have b3 : w2.cell? ⟨w.heap.size + 1, 3, none⟩ = some (.int .u8 y.p) := by rw [blk_cell HY0.out]; rfl
        have a4 : w2.cell? ⟨w.heap.size, 4, none⟩ = some (.slice A xl.length c) := by rw [blk_cell HX0.out]; rfl
        have b4 : w2.cell? ⟨w.heap.size + 1, 4, none⟩ = some (.slice B yl.length d) := by rw [blk_cell HY0.out]; rfl
        have a5 : w2.cell? ⟨w.heap.size, 5, none⟩ = some (.string x.i) := by rw [blk_cell HX0.out]; rfl
        have b5 : w2.cell? ⟨w.heap.size + 1, 5, none⟩ = some (.string y.i) := by rw [blk_cell HY0.out]; rfl
        have a6 : w2.cell? ⟨w.heap.size, 6, none⟩ = some (.string x.t) := by rw [blk_cell HX0.out]; rfl
        have b6 : w2.cell? ⟨w.heap.size + 1, 6, none⟩ = some (.string y.t) := by rw [blk_cell HY0.out]; rfl
        go_wp2_with fail
        go_ret
        exact ⟨by rw [HE.out]; rfl, HB0.out⟩
      | true =>
        cases hp : (x.p == y.p) with
        | false =>
          have HE := Hd.mk (show actEq (x, xl) (y, yl) = false by simp [actEq, hp])
          go_enter Tryd.func31, Tryd.ntmps31
          go_upto_region 1 with (fail)
          generalize (w.alloc (.cells #[.int .i64 x.k, .int .i32 x.r, .int .u8 x.f, .int .u8 x.p, .slice A xl.length c, .string x.i, .string x.t] 29)).alloc (.cells #[.int .i64 y.k, .int .i32 y.r, .int .u8 y.f, .int .u8 y.p, .slice B yl.length d, .string y.i, .string y.t] 29) = w2 at *
          have a0 : w2.cell? ⟨w.heap.size, 0, none⟩ = some (.int .i64 x.k) := by rw [blk_cell HX0.out]; rfl
          have b0 : w2.cell? ⟨w.heap.size + 1, 0, none⟩ = some (.int .i64 y.k) := by rw [blk_cell HY0.out]; rfl
          have a1 : w2.cell? ⟨w.heap.size, 1, none⟩ = some (.int .i32 x.r) := by rw [blk_cell HX0.out]; rfl
          have b1 : w2.cell? ⟨w.heap.size + 1, 1, none⟩ = some (.int .i32 y.r) := by rw [blk_cell HY0.out]; rfl
          have a2 : w2.cell? ⟨w.heap.size, 2, none⟩ = some (.int .u8 x.f) := by rw [blk_cell HX0.out]; rfl
          have b2 : w2.cell? ⟨w.heap.size + 1, 2, none⟩ = some (.int .u8 y.f) := by rw [blk_cell HY0.out]; rfl
          have a3 : w2.cell? ⟨w.heap.size, 3, none⟩ = some (.int .u8 x.p) := by rw [blk_cell HX0.out]; rfl
          have b3 : w2.cell? ⟨w.heap.size + 1, 3, none⟩ = some (.int .u8 y.p) := by rw [blk_cell HY0.out]; rfl
          have a4 : w2.cell? ⟨w.heap.size, 4, none⟩ = some (.slice A xl.length c) := by rw [blk_cell HX0.out]; rfl
          have b4 : w2.cell? ⟨w.heap.size + 1, 4, none⟩ = some (.slice B yl.length d) := by rw [blk_cell HY0.out]; rfl
          have a5 : w2.cell? ⟨w.heap.size, 5, none⟩ = some (.string x.i) := by rw [blk_cell HX0.out]; rfl
          have b5 : w2.cell? ⟨w.heap.size + 1, 5, none⟩ = some (.string y.i) := by rw [blk_cell HY0.out]; rfl
          have a6 : w2.cell? ⟨w.heap.size, 6, none⟩ = some (.string x.t) := by rw [blk_cell HX0.out]; rfl
          have b6 : w2.cell? ⟨w.heap.size + 1, 6, none⟩ = some (.string y.t) := by rw [blk_cell HY0.out]; rfl
          go_wp2_with fail
          go_ret
          exact ⟨by rw [HE.out]; rfl, HB0.out⟩
        | true =>
          cases hi : (x.i.toList == y.i.toList) with
          | false =>
            have HE := Hd.mk (show actEq (x, xl) (y, yl) = false by simp [actEq, hi])
            go_enter Tryd.func31, Tryd.ntmps31
            go_upto_region 1 with (fail)
            generalize (w.alloc (.cells #[.int .i64 x.k, .int .i32 x.r, .int .u8 x.f, .int .u8 x.p, .slice A xl.length c, .string x.i, .string x.t] 29)).alloc (.cells #[.int .i64 y.k, .int .i32 y.r, .int .u8 y.f, .int .u8 y.p, .slice B yl.length d, .string y.i, .string y.t] 29) = w2 at *
            have a0 : w2.cell? ⟨w.heap.size, 0, none⟩ = some (.int .i64 x.k) := by rw [blk_cell HX0.out]; rfl
            have b0 : w2.cell? ⟨w.heap.size + 1, 0, none⟩ = some (.int .i64 y.k) := by rw [blk_cell HY0.out]; rfl
            have a1 : w2.cell? ⟨w.heap.size, 1, none⟩ = some (.int .i32 x.r) := by rw [blk_cell HX0.out]; rfl
            have b1 : w2.cell? ⟨w.heap.size + 1, 1, none⟩ = some (.int .i32 y.r) := by rw [blk_cell HY0.out]; rfl
            have a2 : w2.cell? ⟨w.heap.size, 2, none⟩ = some (.int .u8 x.f) := by rw [blk_cell HX0.out]; rfl
            have b2 : w2.cell? ⟨w.heap.size + 1, 2, none⟩ = some (.int .u8 y.f) := by rw [blk_cell HY0.out]; rfl
            have a3 : w2.cell? ⟨w.heap.size, 3, none⟩ = some (.int .u8 x.p) := by rw [blk_cell HX0.out]; rfl
            have b3 : w2.cell? ⟨w.heap.size + 1, 3, none⟩ = some (.int .u8 y.p) := by rw [blk_cell HY0.out]; rfl
            have a4 : w2.cell? ⟨w.heap.size, 4, none⟩ = some (.slice A xl.length c) := by rw [blk_cell HX0.out]; rfl
            have b4 : w2.cell? ⟨w.heap.size + 1, 4, none⟩ = some (.slice B yl.length d) := by rw [blk_cell HY0.out]; rfl
            have a5 : w2.cell? ⟨w.heap.size, 5, none⟩ = some (.string x.i) := by rw [blk_cell HX0.out]; rfl
            have b5 : w2.cell? ⟨w.heap.size + 1, 5, none⟩ = some (.string y.i) := by rw [blk_cell HY0.out]; rfl
            have a6 : w2.cell? ⟨w.heap.size, 6, none⟩ = some (.string x.t) := by rw [blk_cell HX0.out]; rfl
            have b6 : w2.cell? ⟨w.heap.size + 1, 6, none⟩ = some (.string y.t) := by rw [blk_cell HY0.out]; rfl
            go_wp2_with fail
            go_ret
            exact ⟨by rw [HE.out]; rfl, HB0.out⟩
          | true =>
            cases ht : (x.t.toList == y.t.toList) with
            | false =>
              have HE := Hd.mk (show actEq (x, xl) (y, yl) = false by simp [actEq, ht])
              go_enter Tryd.func31, Tryd.ntmps31
              go_upto_region 1 with (fail)
              generalize (w.alloc (.cells #[.int .i64 x.k, .int .i32 x.r, .int .u8 x.f, .int .u8 x.p, .slice A xl.length c, .string x.i, .string x.t] 29)).alloc (.cells #[.int .i64 y.k, .int .i32 y.r, .int .u8 y.f, .int .u8 y.p, .slice B yl.length d, .string y.i, .string y.t] 29) = w2 at *
              have a0 : w2.cell? ⟨w.heap.size, 0, none⟩ = some (.int .i64 x.k) := by rw [blk_cell HX0.out]; rfl
              have b0 : w2.cell? ⟨w.heap.size + 1, 0, none⟩ = some (.int .i64 y.k) := by rw [blk_cell HY0.out]; rfl
              have a1 : w2.cell? ⟨w.heap.size, 1, none⟩ = some (.int .i32 x.r) := by rw [blk_cell HX0.out]; rfl
              have b1 : w2.cell? ⟨w.heap.size + 1, 1, none⟩ = some (.int .i32 y.r) := by rw [blk_cell HY0.out]; rfl
              have a2 : w2.cell? ⟨w.heap.size, 2, none⟩ = some (.int .u8 x.f) := by rw [blk_cell HX0.out]; rfl
              have b2 : w2.cell? ⟨w.heap.size + 1, 2, none⟩ = some (.int .u8 y.f) := by rw [blk_cell HY0.out]; rfl
              have a3 : w2.cell? ⟨w.heap.size, 3, none⟩ = some (.int .u8 x.p) := by rw [blk_cell HX0.out]; rfl
              have b3 : w2.cell? ⟨w.heap.size + 1, 3, none⟩ = some (.int .u8 y.p) := by rw [blk_cell HY0.out]; rfl
              have a4 : w2.cell? ⟨w.heap.size, 4, none⟩ = some (.slice A xl.length c) := by rw [blk_cell HX0.out]; rfl
              have b4 : w2.cell? ⟨w.heap.size + 1, 4, none⟩ = some (.slice B yl.length d) := by rw [blk_cell HY0.out]; rfl
              have a5 : w2.cell? ⟨w.heap.size, 5, none⟩ = some (.string x.i) := by rw [blk_cell HX0.out]; rfl
              have b5 : w2.cell? ⟨w.heap.size + 1, 5, none⟩ = some (.string y.i) := by rw [blk_cell HY0.out]; rfl
              have a6 : w2.cell? ⟨w.heap.size, 6, none⟩ = some (.string x.t) := by rw [blk_cell HX0.out]; rfl
              have b6 : w2.cell? ⟨w.heap.size + 1, 6, none⟩ = some (.string y.t) := by rw [blk_cell HY0.out]; rfl
              go_wp2_with fail
              go_ret
              exact ⟨by rw [HE.out]; rfl, HB0.out⟩
            | true =>
              have HE := Hd.mk (show actEq (x, xl) (y, yl) = intsEq xl yl by simp only [actEq, hk, hr, hf, hp, hi, ht, Bool.true_and])
              go_enter Tryd.func31, Tryd.ntmps31
              go_upto_region 1 with (fail)
              generalize (w.alloc (.cells #[.int .i64 x.k, .int .i32 x.r, .int .u8 x.f, .int .u8 x.p, .slice A xl.length c, .string x.i, .string x.t] 29)).alloc (.cells #[.int .i64 y.k, .int .i32 y.r, .int .u8 y.f, .int .u8 y.p, .slice B yl.length d, .string y.i, .string y.t] 29) = w2 at *
              have a0 : w2.cell? ⟨w.heap.size, 0, none⟩ = some (.int .i64 x.k) := by rw [blk_cell HX0.out]; rfl
              have b0 : w2.cell? ⟨w.heap.size + 1, 0, none⟩ = some (.int .i64 y.k) := by rw [blk_cell HY0.out]; rfl
              have a1 : w2.cell? ⟨w.heap.size, 1, none⟩ = some (.int .i32 x.r) := by rw [blk_cell HX0.out]; rfl
              have b1 : w2.cell? ⟨w.heap.size + 1, 1, none⟩ = some (.int .i32 y.r) := by rw [blk_cell HY0.out]; rfl
              have a2 : w2.cell? ⟨w.heap.size, 2, none⟩ = some (.int .u8 x.f) := by rw [blk_cell HX0.out]; rfl
              have b2 : w2.cell? ⟨w.heap.size + 1, 2, none⟩ = some (.int .u8 y.f) := by rw [blk_cell HY0.out]; rfl
              have a3 : w2.cell? ⟨w.heap.size, 3, none⟩ = some (.int .u8 x.p) := by rw [blk_cell HX0.out]; rfl
              have b3 : w2.cell? ⟨w.heap.size + 1, 3, none⟩ = some (.int .u8 y.p) := by rw [blk_cell HY0.out]; rfl
              have a4 : w2.cell? ⟨w.heap.size, 4, none⟩ = some (.slice A xl.length c) := by rw [blk_cell HX0.out]; rfl
              have b4 : w2.cell? ⟨w.heap.size + 1, 4, none⟩ = some (.slice B yl.length d) := by rw [blk_cell HY0.out]; rfl
              have a5 : w2.cell? ⟨w.heap.size, 5, none⟩ = some (.string x.i) := by rw [blk_cell HX0.out]; rfl
              have b5 : w2.cell? ⟨w.heap.size + 1, 5, none⟩ = some (.string y.i) := by rw [blk_cell HY0.out]; rfl
              have a6 : w2.cell? ⟨w.heap.size, 6, none⟩ = some (.string x.t) := by rw [blk_cell HX0.out]; rfl
              have b6 : w2.cell? ⟨w.heap.size + 1, 6, none⟩ = some (.string y.t) := by rw [blk_cell HY0.out]; rfl
              go_wp2_with fail
              refine (equalInts_calls _ _ xl yl w2 (Rd.below HX.out HB0.out) (Rd.below HY.out HB0.out)).mono ?_
              rintro e w3 ⟨rfl, hb3⟩
              go_wp2_with fail
              go_ret
              exact ⟨by rw [HE.out]; rfl, below_next HB0.out hb3⟩

/-! ### Lists of actions that are read -/
def RAct (w : World) (v : Value) (l : List (AV × List Int)) : Prop := Rd w v l.length (encA (l.map (·.1))) ∧ ∀ x ∈ l, RJ w x.1.pv x.2
theorem RAct.below {w w' : World} {v : Value} {l : List (AV × List Int)} (h : RAct w v l) (hb : Below w.heap.size w w') : RAct w' v l := ⟨Rd.below h.1 hb, fun x hx => Rd.below (h.2 x hx) hb⟩
theorem RAct.slice {w : World} {v : Value} {l : List (AV × List Int)} (h : RAct w v l) : ∃ A c, v = .slice A l.length c ∧ l.length ≤ c ∧ c ≤ maxLen := by
  obtain ⟨⟨A, c, h1, h2, h3, _⟩, _⟩ := h
  exact ⟨A, c, h1, h2, h3⟩
theorem encA_at (l : List AV) (k : Nat) (hk : k < l.length) (j : Nat) (hj : j < 7) : (encA l)[k * 7 + j]? = (AV.cells l[k])[j]? := by
  induction l generalizing k with
  | nil => simp at hk
  | cons a l ih =>
    have hl : (AV.cells a).length = 7 := rfl
    cases k with
    | zero =>
      simp only [encA, List.flatMap_cons]
      rw [List.getElem?_append_left (by omega)]
      simp
    | succ k =>
      have := ih k (by simpa using hk)
      simp only [encA, List.flatMap_cons] at this ⊢
      rw [List.getElem?_append_right (by omega), hl]
      rw [show (k + 1) * 7 + j - 7 = k * 7 + j by omega, this]
      simp
theorem RAct.at_ {w : World} {v : Value} {l : List (AV × List Int)} (h : RAct w v l) {k : Nat} (hk : k < l.length) :
    ∃ b o c, v = .slice (some ⟨b, o, none⟩) l.length c ∧ l.length ≤ c ∧ c ≤ maxLen ∧ b < w.heap.size ∧ w.cell? ⟨b, o + k * 7, none⟩ = some (.int .i64 l[k].1.k) ∧ w.cell? ⟨b, o + k * 7 + 1, none⟩ = some (.int .i32 l[k].1.r) ∧ w.cell? ⟨b, o + k * 7 + 2, none⟩ = some (.int .u8 l[k].1.f) ∧ w.cell? ⟨b, o + k * 7 + 3, none⟩ = some (.int .u8 l[k].1.p) ∧ w.cell? ⟨b, o + k * 7 + 4, none⟩ = some l[k].1.pv ∧ w.cell? ⟨b, o + k * 7 + 5, none⟩ = some (.string l[k].1.i) ∧ w.cell? ⟨b, o + k * 7 + 6, none⟩ = some (.string l[k].1.t) ∧ Hd (RJ w l[k].1.pv l[k].2) := by
  have hlen : (encA (l.map (·.1))).length = l.length * 7 := by rw [encA_len, List.length_map]
  have hne : encA (l.map (·.1)) ≠ [] := fun e => by rw [e] at hlen; simp at hlen; omega
  obtain ⟨b, o, c, rfl, h1, h2, h3, hc⟩ := Rd.at_ h.1 hne
  have hk' : k < (l.map (·.1)).length := by simpa using hk
  have e := fun j hj => encA_at (l.map (·.1)) k hk' j hj
  have hg : (l.map (·.1))[k] = l[k].1 := by simp
  rw [hg] at e
  have cc := fun j (hj : j < 7) u (hu : (AV.cells l[k].1)[j]? = some u) => hc (k * 7 + j) u ((e j hj).trans hu)
  refine ⟨b, o, c, rfl, h1, h2, h3, cc 0 (by decide) _ rfl, ?_, ?_, ?_, ?_, ?_, ?_, ⟨h.2 _ (List.getElem_mem hk)⟩⟩
  · have := cc 1 (by decide) _ rfl; rwa [← Nat.add_assoc] at this
  · have := cc 2 (by decide) _ rfl; rwa [← Nat.add_assoc] at this
  · have := cc 3 (by decide) _ rfl; rwa [← Nat.add_assoc] at this
  · have := cc 4 (by decide) _ rfl; rwa [← Nat.add_assoc] at this
  · have := cc 5 (by decide) _ rfl; rwa [← Nat.add_assoc] at this
  · have := cc 6 (by decide) _ rfl; rwa [← Nat.add_assoc] at this
end Go.Proofs.YtnolkpknoljacaaDoor
