/- slices.EqualFunc over actions, vtparse.Same, the reference's Param, the statements' live. -/
import Derived.Test.YtnolkpknoljacaaDoorVi
import Derived.Lib.SlBytesConst
set_option linter.unusedVariables false
set_option linter.unusedSimpArgs false
namespace Go.Proofs.YtnolkpknoljacaaDoor
open Go.RowKit

def actsEq : List (AV × List Int) → List (AV × List Int) → Bool := eqAll actEq
set_option maxRecDepth 100000 in
set_option maxHeartbeats 4000000 in
theorem equalActs_calls (v u : Value) (xs ys : List (AV × List Int)) (w : World) (hv : RAct w v xs) (hu : RAct w u ys) :
    Calls Tryd.prog 30 #[v, u, .func (.func 31) #[] #[]] w fun e w' => e = .returned (.bool (actsEq xs ys)) ∧ Below w.heap.size w w' := by
  have HV := Hd.mk hv
  have HU := Hd.mk hu
  obtain ⟨A, c, rfl, hn1, hn2⟩ := hv.slice
  obtain ⟨B, d, rfl, -, -⟩ := hu.slice
  clear hv hu
  by_cases hl : xs.length = ys.length
  · have HL := Hd.mk hl
    have hlb : ((xs.length : Int) != (ys.length : Int)) = false := by rw [hl]; simp
    clear hl
    go_enter Tryd.func30, Tryd.ntmps30
    go_wp2_with fail
    clear hlb
    go_loopg [17] xs.length (fun gk i wr => ∃ k : Nat, k + gk = xs.length ∧ i = .int .i64 k ∧ Hd (actsEq xs ys = actsEq (xs.drop k) (ys.drop k)) ∧ Hd (Below w.heap.size w wr))
    case atStart => exact ⟨0, by omega, rfl, ⟨rfl⟩, ⟨Below.refl _ _⟩⟩
    case round =>
      obtain ⟨k, hk, rfl, HF, HB⟩ := hrel
      by_cases hlt : k < xs.length
      · have hlt2 : k < ys.length := by rw [← HL.out]; exact hlt
        have HS := Hd.mk (eqAll_drop actEq xs ys k hlt hlt2)
        obtain ⟨b1, o1, c1, hv, k1, k2, hbl1, p0, p1, p2, p3, p4, p5, p6, HR1⟩ := RAct.at_ (HV.out.below HB.out) hlt
        have hm : xs.length ≤ 9223372036854775807 := Nat.le_trans k1 (by unfold maxLen at k2; omega)
        clear k1 k2
        injection hv with hv1 hv2 hv3
        subst hv1 hv3
        obtain ⟨b2, o2, c2, hv, -, -, hbl2, q0, q1, q2, q3, q4, q5, q6, HR2⟩ := RAct.at_ (HU.out.below HB.out) hlt2
        injection hv with hv1 hv2 hv3
        subst hv1 hv3
        generalize xs[k] = x at *
        generalize ys[k] = y at *
        obtain ⟨x, xl⟩ := x
        obtain ⟨y, yl⟩ := y
        simp only at p0 p1 p2 p3 p4 p5 p6 q0 q1 q2 q3 q4 q5 q6
        obtain ⟨Ax, cx, hxp, -⟩ := id HR1.out
        obtain ⟨Ay, cy, hyp, -⟩ := id HR2.out
        simp only at hxp hyp
        rw [hxp] at p4
        rw [hyp] at q4
        have HB0 := Hd.mk (show Below wr.heap.size wr ((wr.alloc (.cells #[.int .i64 x.k, .int .i32 x.r, .int .u8 x.f, .int .u8 x.p, .slice Ax xl.length cx, .string x.i, .string x.t] 29)).alloc (.cells #[.int .i64 y.k, .int .i32 y.r, .int .u8 y.f, .int .u8 y.p, .slice Ay yl.length cy, .string y.i, .string y.t] 29)) from ((Below.refl _ _).alloc (Nat.le_refl _) _).alloc (by simp) _)
        have HCE := Hd.mk (actSame_calls x y xl yl _ (Rd.below HR1.out HB0.out) (Rd.below HR2.out HB0.out))
        rw [hxp, hyp] at HCE
        clear hxp hyp
        cases hxy : actEq (x, xl) (y, yl) with
        | true =>
          have HE := Hd.mk hxy
          rw [hxy] at HCE
          clear hxy
          go_wp2_with fail
          refine HCE.out.mono ?_
          rintro e w3 ⟨rfl, hb3⟩
          have HB3 := Hd.mk (below_next HB.out (below_next HB0.out hb3))
          clear hb3 p0 p1 p2 p3 p4 p5 p6 q0 q1 q2 q3 q4 q5 q6
          go_wp2_with fail
          go_roundg (gk - 1)
          case measure => omega
          case rel => exact ⟨k + 1, by omega, by go_num, ⟨by rw [HF.out, actsEq, HS.out, HE.out, Bool.true_and]⟩, HB3⟩
        | false =>
          have HE := Hd.mk hxy
          rw [hxy] at HCE
          clear hxy
          go_wp2_with fail
          refine HCE.out.mono ?_
          rintro e w3 ⟨rfl, hb3⟩
          have HB3 := Hd.mk (below_next HB.out (below_next HB0.out hb3))
          clear hb3 p0 p1 p2 p3 p4 p5 p6 q0 q1 q2 q3 q4 q5 q6
          go_wp2_with fail
          go_ret
          exact ⟨by rw [HF.out, actsEq, HS.out, HE.out, Bool.false_and]; rfl, HB3.out⟩
      · have h1 : xs.drop k = [] := List.drop_of_length_le (by omega)
        have h2 : ys.drop k = [] := List.drop_of_length_le (by have := HL.out; omega)
        have HE := Hd.mk (show actsEq (xs.drop k) (ys.drop k) = true by rw [h1, h2]; rfl)
        clear h1 h2
        go_wp2_with fail
        go_ret
        exact ⟨by rw [HF.out, HE.out]; rfl, HB.out⟩
  · have hlb : ((xs.length : Int) != (ys.length : Int)) = true := by simp; omega
    have HE := Hd.mk (eqAll_len actEq xs ys hl)
    clear hl
    go_enter Tryd.func30, Tryd.ntmps30
    go_wp2_with fail
    go_ret
    exact ⟨by rw [actsEq, HE.out]; rfl, Below.refl _ _⟩
set_option maxRecDepth 100000 in
theorem same_calls (v u : Value) (xs ys : List (AV × List Int)) (w : World) (hv : RAct w v xs) (hu : RAct w u ys) :
    Calls Tryd.prog 19 #[v, u] w fun e w' => e = .returned (.bool (actsEq xs ys)) ∧ Below w.heap.size w w' := by
  have H := Hd.mk (equalActs_calls v u xs ys w hv hu)
  clear hv hu
  go_enter Tryd.func19, Tryd.ntmps19
  go_wp2_with fail
  refine H.out.mono ?_
  rintro e w1 ⟨rfl, hb⟩
  have HB := Hd.mk hb
  clear hb
  go_wp2_with fail
  go_ret
  exact ⟨rfl, HB.out⟩

set_option maxRecDepth 100000 in
set_option maxHeartbeats 4000000 in
theorem rparam_calls (a : AV) (pl : List Int) (i other : Int) (w : World) (hp : RJ w a.pv pl) :
    Calls Tryd.prog 18 #[.agg #[.int .i64 a.k, .int .i32 a.r, .int .u8 a.f, .int .u8 a.p, a.pv, .string a.i, .string a.t], .int .i64 i, .int .i64 other] w fun e w' => e = .returned (.int .i64 (paramF pl i other)) ∧ Below w.heap.size w w' := by
  have HP := Hd.mk hp
  obtain ⟨k, r, f, p, pv, ia, t⟩ := a
  obtain ⟨A, c, hpv, h1, h2, -⟩ := hp
  simp only at hpv HP ⊢
  subst hpv
  have hm : pl.length ≤ 9223372036854775807 := Nat.le_trans h1 (by unfold maxLen at h2; omega)
  clear h1 h2
  have HB := Hd.mk (below_alloc1 w (.cells #[.int .i64 k, .int .i32 r, .int .u8 f, .int .u8 p, .slice A pl.length c, .string ia, .string t] 29))
  by_cases h0 : i < 0
  · have HE := Hd.mk (show paramF pl i other = other by unfold paramF; rw [if_pos (.inl h0)])
    go_enter Tryd.func18, Tryd.ntmps18
    go_wp2
    all_goals (exact bodyPost_ret (v := .int .i64 other) (by simp [results, Tryd.results18, go_sem]) rfl ⟨by rw [HE.out], HB.out⟩)
  · obtain ⟨j, rfl⟩ := Int.eq_ofNat_of_zero_le (show 0 ≤ i by omega)
    by_cases hl : j < pl.length
    · obtain ⟨b, o, c', hv, -, -, hbl, hc⟩ := RJ.at_ HP.out hl
      injection hv with hv1 hv2 hv3
      clear hv2
      subst hv1 hv3
      have g0 := hc j hl
      clear hc
      have hE : paramF pl j other = if pl[j] = -1 ∨ pl[j] = 0 then other else pl[j] := by
        unfold paramF
        rw [if_neg (by omega)]
        simp [List.getD, hl]
      have HE := Hd.mk hE
      have hd1 : decide (pl.length ≤ j) = false := by simp; omega
      clear hE
      generalize pl[j] = z at *
      by_cases z1 : z = -1
      · subst z1
        go_enter Tryd.func18, Tryd.ntmps18
        go_wp2
        all_goals (exact bodyPost_ret (v := .int .i64 other) (by simp [results, Tryd.results18, go_sem]) rfl ⟨by rw [HE.out]; rfl, HB.out⟩)
      · by_cases z0 : z = 0
        · subst z0
          go_enter Tryd.func18, Tryd.ntmps18
          go_wp2
          all_goals (exact bodyPost_ret (v := .int .i64 other) (by simp [results, Tryd.results18, go_sem]) rfl ⟨by rw [HE.out]; rfl, HB.out⟩)
        · have e1 : (z == -1) = false := beq_eq_false_iff_ne.2 z1
          have e0 : (z == 0) = false := beq_eq_false_iff_ne.2 z0
          have HE2 := Hd.mk (show paramF pl j other = z by rw [HE.out, if_neg (by rintro (h | h); exact z1 h; exact z0 h)])
          clear z1 z0
          go_enter Tryd.func18, Tryd.ntmps18
          go_wp2
          all_goals (exact bodyPost_ret (v := .int .i64 z) (by simp [results, Tryd.results18, go_sem]) rfl ⟨by rw [HE2.out], HB.out⟩)
    · have HE := Hd.mk (show paramF pl j other = other by unfold paramF; rw [if_pos (.inr (by omega))])
      have hd1 : decide (pl.length ≤ j) = true := by simp; omega
      go_enter Tryd.func18, Tryd.ntmps18
      go_wp2
      all_goals (exact bodyPost_ret (v := .int .i64 other) (by simp [results, Tryd.results18, go_sem]) rfl ⟨by rw [HE.out], HB.out⟩)

/-! ### live -/
theorem pending_calls {w : World} {db : Nat} {A : Option Addr} {c : Nat} (h : w.heap[db]? = some (.cells #[.bool true, .slice A 0 c] 69 (0, 0))) :
    Calls Tryd.prog 29 #[.pointer (some ⟨db, 0, none⟩)] w fun e w' => e = .returned (.int .i64 0) ∧ w = w' := by
  have H := Hd.mk h
  have x1 : w.cell? ⟨db, 1, none⟩ = some (.slice A 0 c) := by rw [blk_cell h]; rfl
  clear h
  go_enter Tryd.func29, Tryd.ntmps29
  go_wp2_with (go_at_call 37; refine (dnone_calls H.out).mono ?_; rintro e w' ⟨rfl, rfl⟩)
  go_ret
  exact ⟨rfl, rfl⟩
set_option maxRecDepth 100000 in
theorem ground_calls {w0 w : World} {B pb db : Nat} {many : Int} {a : AV} {pl : List Int} {acts : List AV} {vo : Value} {A : Option Addr} {c : Nat} (h : PF w0 B pb db 0 a pl many acts vo (.slice A 0 c) w) :
    Calls Tryd.prog 14 #[.pointer (some ⟨pb, 0, none⟩)] w fun e w' => e = .returned (.bool true) ∧ w = w' := by
  have H := Hd.mk h
  have x1 : w.cell? ⟨pb, 1, none⟩ = some (.int .i64 0) := h.c 1
  have x2 : w.cell? ⟨pb, 2, none⟩ = some (.pointer (some ⟨db, 0, none⟩)) := h.c 2
  clear h
  go_enter Tryd.func14, Tryd.ntmps14
  go_wp2_with (first | (go_at_call 26; refine (none_calls H.out).mono ?_; rintro e w' ⟨rfl, rfl⟩) | (go_at_call 29; refine (pending_calls H.out.dec).mono ?_; rintro e w' ⟨rfl, rfl⟩))
  go_ret
  exact ⟨rfl, rfl⟩
set_option maxRecDepth 100000 in
set_option maxHeartbeats 4000000 in
theorem live_calls (w : World) : Calls Tryd.prog 8 #[] w fun e w' => e = .returned (.bool true) ∧ Below w.heap.size w w' := by
  have HB0 := Hd.mk (below_alloc1 w (.cells #[.int .u8 27, .int .u8 91, .int .u8 51, .int .u8 59, .int .u8 53, .int .u8 72] 5 (6, 7)))
  have HX0 := Hd.mk (heap_alloc_new w (.cells #[.int .u8 27, .int .u8 91, .int .u8 51, .int .u8 59, .int .u8 53, .int .u8 72] 5 (6, 7)))
  have kc := fun (w : World) (C : Array Value) (n c : Nat) => Lib.run_convert_bytes_const (P := Tryd.prog) w 25 5 C n c Tryd.underlying25 Tryd.underlying5
  go_enter Tryd.func8, Tryd.ntmps8
  go_wp2_with fail
  have HC : Hd (∀ j, j < 6 → (w.alloc (.cells #[.int .u8 27, .int .u8 91, .int .u8 51, .int .u8 59, .int .u8 53, .int .u8 72] 5 (6, 7))).cell? ⟨w.heap.size, j, none⟩ = some (.int .u8 (seqB.getD j 0))) := ⟨by
    intro j hj
    rw [blk_cell HX0.out]
    have : j = 0 ∨ j = 1 ∨ j = 2 ∨ j = 3 ∨ j = 4 ∨ j = 5 := by omega
    rcases this with rfl | rfl | rfl | rfl | rfl | rfl <;> rfl⟩
  have hql := box_lt HX0.out
  generalize w.alloc (.cells #[.int .u8 27, .int .u8 91, .int .u8 51, .int .u8 59, .int .u8 53, .int .u8 72] 5 (6, 7)) = w1 at *
  refine (all6_calls w.heap.size 6 w1 hql HC.out).mono ?_
  rintro e w2 ⟨v', vo, rfl, ho, hp, hb⟩
  have HO := Hd.mk ho
  have HP := Hd.mk hp
  have HB2 := Hd.mk (below_next HB0.out hb)
  obtain ⟨g, cap, rfl, -, hg, -, -⟩ := own_form ho (by decide)
  obtain ⟨Ap, cp, rfl⟩ := own_slice hp
  clear ho hp hb
  go_wp2_with fail
  refine (new_calls w2).mono ?_
  rintro e w3 ⟨rfl, h3⟩
  have H3 := Hd.mk h3
  have HB3 := Hd.mk (below_next HB2.out h3.bel)
  have HO3 := Hd.mk (below_own HO.out h3.bel)
  have HP3 := Hd.mk (own_rd (below_own HP.out h3.bel))
  have g0 : w3.cell? ⟨g, 0, none⟩ = some (.int .i64 4) := World.ownsRow.cellAt HO3.out 0 (by decide)
  have g1 : w3.cell? ⟨g, 1, none⟩ = some (.int .i32 0) := World.ownsRow.cellAt HO3.out 1 (by decide)
  have g2 : w3.cell? ⟨g, 2, none⟩ = some (.int .u8 72) := World.ownsRow.cellAt HO3.out 2 (by decide)
  have g3 : w3.cell? ⟨g, 3, none⟩ = some (.int .u8 0) := World.ownsRow.cellAt HO3.out 3 (by decide)
  have g4 : w3.cell? ⟨g, 4, none⟩ = some (.slice Ap 2 cp) := World.ownsRow.cellAt HO3.out 4 (by decide)
  have g5 : w3.cell? ⟨g, 5, none⟩ = some (.string ⟨#[]⟩) := World.ownsRow.cellAt HO3.out 5 (by decide)
  have g6 : w3.cell? ⟨g, 6, none⟩ = some (.string ⟨#[]⟩) := World.ownsRow.cellAt HO3.out 6 (by decide)
  have HPC := Hd.mk (param_calls ⟨4, 0, 72, 0, .slice Ap 2 cp, ⟨#[]⟩, ⟨#[]⟩⟩ [3, 5] 1 9 w3 HP3.out)
  have HPE := Hd.mk (show paramF [3, 5] 1 9 = 5 by decide)
  rw [HPE.out] at HPC
  clear h3
  go_wp2_with (first | (go_at_call 14; refine (ground_calls H3.out).mono ?_; rintro e w' ⟨rfl, rfl⟩) | (go_at_call 17; refine HPC.out.mono ?_; rintro e w4 ⟨rfl, hb4⟩; have HB4 := Hd.mk hb4; clear hb4))
  go_ret
  exact ⟨rfl, below_next HB3.out HB4.out⟩
end Go.Proofs.YtnolkpknoljacaaDoor
