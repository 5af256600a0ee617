/- LayoutSame: the walk. -/
import Derived.Test.YthpfhlhoekgpjaaDoorRs
import Derived.Test.YthpfhlhoekgpjaaDoorRx
import Derived.Test.YthpfhlhoekgpjaaDoorHiw
import Derived.Test.YthpfhlhoekgpjaaDoorFr
set_option linter.unusedVariables false
set_option linter.unusedSimpArgs false
namespace Go.Proofs.YthpfhlhoekgpjaaDoor
open Go.RowKit

theorem textsEq_refl (l : List ByteArray) : textsEq l l = true := by
  unfold textsEq
  induction l with
  | nil => rfl
  | cons c l ih => rw [eqAll, ih]; simp [textEq]

set_option maxRecDepth 100000 in
set_option maxHeartbeats 8000000 in
theorem samelaw_calls (v u : Value) (xs ys : List (List Cell)) (r1 c1 a1 r2 c2 a2 : Int) (w : World) (hL : Laid w) (hv : RR w v xs) (hu : RR w u ys) (hn : xs.length ≤ 1048576) (hm : ys.length ≤ 1048576) (hs : ∀ l ∈ xs, rowBulk l ≤ 1048576) (ht : ∀ l ∈ ys, rowBulk l ≤ 1048576) :
    Calls Tryd.prog 8 #[.agg #[v, .int .i64 r1, .int .i64 c1, .int .i64 a1], .agg #[u, .int .i64 r2, .int .i64 c2, .int .i64 a2]] w fun e w' => e = .returned (.bool true) ∧ Below w.heap.size w w' := by
  have HV := Hd.mk hv
  have HU := Hd.mk hu
  have HL := Hd.mk hL
  have hs3 : ∀ l ∈ xs, l.length * 32 ≤ 140737488355328 := fun l hl => by have := hs l hl; have := rowBulk_len l; omega
  have ht3 : ∀ l ∈ ys, l.length * 32 ≤ 140737488355328 := fun l hl => by have := ht l hl; have := rowBulk_len l; omega
  have hst : ∀ l ∈ xs, ∀ k, k ≤ l.length → (rowText (l.take k)).size ≤ 1000000000 := fun l hl k _ => by
    have := hs l hl
    have := rowBulk_take l k
    have := rowText_size (l.take k)
    omega
  have HSX := Hd.mk hs3
  have hsl := same_law xs ys r1 c1 r2 c2
  have HC26 := Hd.mk (fun wx (h1 : RR wx v xs) (h2 : RR wx u ys) => same_calls v u xs ys r1 c1 a1 r2 c2 a2 wx h1 h2 (by omega) (by omega) hs3 ht3)
  have HC27 := Hd.mk (fun wx (h1 : RR wx v xs) (h2 : RR wx u ys) => rsame_calls v u xs ys r1 c1 a1 r2 c2 a2 wx h1 h2 (by omega) (by omega) hs3 ht3)
  have HCAA := Hd.mk (fun wx (h1 : RR wx v xs) => same_calls v v xs xs r1 c1 a1 r1 c1 a1 wx h1 h1 (by omega) (by omega) hs3 hs3)
  rw [sameF_refl] at HCAA
  rw [hsl] at HC26
  have HC29 := Hd.mk (fun wx (h1 : RR wx v xs) => text_calls v xs r1 c1 a1 wx h1 (by omega) hst)
  have HC30 := Hd.mk (fun wx (h1 : RR wx v xs) => rtext_calls v xs r1 c1 a1 wx h1 (by omega) hst)
  generalize refSameF xs ys r1 c1 r2 c2 = sb at *
  clear hsl
  obtain ⟨A, c, rfl, -, -⟩ := hv.slice
  obtain ⟨B, d, rfl, -, -⟩ := hu.slice
  clear hv hu hs ht hs3 ht3 hst hL
  have HB0 := Hd.mk (show Below w.heap.size w ((w.alloc (.cells #[.slice A xs.length c, .int .i64 r1, .int .i64 c1, .int .i64 a1] 29)).alloc (.cells #[.slice B ys.length d, .int .i64 r2, .int .i64 c2, .int .i64 a2] 29)) from ((Below.refl _ _).alloc (Nat.le_refl _) _).alloc (by simp) _)
  have HX0 := Hd.mk (show ((w.alloc (.cells #[.slice A xs.length c, .int .i64 r1, .int .i64 c1, .int .i64 a1] 29)).alloc (.cells #[.slice B ys.length d, .int .i64 r2, .int .i64 c2, .int .i64 a2] 29)).heap[w.heap.size]? = some (.cells #[.slice A xs.length c, .int .i64 r1, .int .i64 c1, .int .i64 a1] 29 (0, 0)) from heap_at (heap_alloc_new _ _))
  have HY0 := Hd.mk (show ((w.alloc (.cells #[.slice A xs.length c, .int .i64 r1, .int .i64 c1, .int .i64 a1] 29)).alloc (.cells #[.slice B ys.length d, .int .i64 r2, .int .i64 c2, .int .i64 a2] 29)).heap[w.heap.size + 1]? = some (.cells #[.slice B ys.length d, .int .i64 r2, .int .i64 c2, .int .i64 a2] 29 (0, 0)) from by
    have := heap_alloc_new (w.alloc (.cells #[.slice A xs.length c, .int .i64 r1, .int .i64 c1, .int .i64 a1] 29)) (.cells #[.slice B ys.length d, .int .i64 r2, .int .i64 c2, .int .i64 a2] 29)
    simpa using this)
  go_enter Tryd.func8, Tryd.ntmps8
  go_wp2_with fail
  generalize (w.alloc (.cells #[.slice A xs.length c, .int .i64 r1, .int .i64 c1, .int .i64 a1] 29)).alloc (.cells #[.slice B ys.length d, .int .i64 r2, .int .i64 c2, .int .i64 a2] 29) = w2 at *
  go_loopg [10] xs.length (fun gk i wr => ∃ k : Nat, k + gk = xs.length ∧ i = .int .i64 k ∧ Hd (Below w2.heap.size w2 wr))
  case atStart => exact ⟨0, by omega, rfl, ⟨Below.refl _ _⟩⟩
  case round =>
    obtain ⟨k, hk, rfl, HB⟩ := hrel
    have HBW := Hd.mk (below_next HB0.out HB.out)
    by_cases hlt : k < xs.length
    · obtain ⟨b1, o1, d1, A1, e1, hv, -, -, hcx, HRX⟩ := RR.at_ (HV.out.below HBW.out) hlt
      injection hv with hv1 hv2 hv3
      clear hv2
      subst hv1 hv3
      have HLX := Hd.mk (HSX.out xs[k] (List.getElem_mem _))
      generalize xs[k] = X at *
      go_wp2_with fail
      refine (trim_any _ X wr HRX.out HLX.out).mono ?_
      rintro e w3 ⟨v3, rfl, ho3, hb3⟩
      have HO3 := Hd.mk ho3
      have HB3 := Hd.mk hb3
      obtain ⟨A3, c3, rfl⟩ := own_slice ho3
      clear ho3 hb3 hcx
      go_wp2_with fail
      refine (rtrim_calls _ X w3 (RC.below HRX.out HB3.out) HLX.out).mono ?_
      rintro e w4 ⟨v4, rfl, ho4, hb4⟩
      have HO4 := Hd.mk ho4
      have HP4 := Hd.mk (HO3.out.below hb4)
      have HB4 := Hd.mk (below_next HB3.out hb4)
      obtain ⟨A4, c4, rfl⟩ := own_slice ho4
      clear ho4 hb4
      go_wp2_with fail
      refine (equalCells_calls _ _ (trimF X) (trimF X) w4 (OC.rc HP4.out) (OC.rc HO4.out)).mono ?_
      rw [cellsEqB_refl]
      rintro e w5 ⟨rfl, hb5⟩
      have HB5 := Hd.mk (below_next HB.out (below_next HB4.out hb5))
      clear hb5
      go_wp2_with fail
      go_roundg (gk - 1)
      case measure => omega
      case rel => exact ⟨k + 1, by omega, by go_num, HB5⟩
    · go_upto_region 7 with (fail)
      have HX := Hd.mk (box_touch HX0.out (Touch.of_below (S := fun _ => False) HB.out) id)
      have HY := Hd.mk (box_touch HY0.out (Touch.of_below (S := fun _ => False) HB.out) id)
      have HLI := Hd.mk (fun wx (hb : Below wr.heap.size wr wx) => live_calls wx (HL.out.step (below_next HBW.out hb)))
      have x0 : wr.cell? ⟨w.heap.size, 0, none⟩ = some (.slice A xs.length c) := by rw [blk_cell HX.out]; rfl
      have x1 : wr.cell? ⟨w.heap.size, 1, none⟩ = some (.int .i64 r1) := by rw [blk_cell HX.out]; rfl
      have x2 : wr.cell? ⟨w.heap.size, 2, none⟩ = some (.int .i64 c1) := by rw [blk_cell HX.out]; rfl
      have x3 : wr.cell? ⟨w.heap.size, 3, none⟩ = some (.int .i64 a1) := by rw [blk_cell HX.out]; rfl
      have y0 : wr.cell? ⟨w.heap.size + 1, 0, none⟩ = some (.slice B ys.length d) := by rw [blk_cell HY.out]; rfl
      have y1 : wr.cell? ⟨w.heap.size + 1, 1, none⟩ = some (.int .i64 r2) := by rw [blk_cell HY.out]; rfl
      have y2 : wr.cell? ⟨w.heap.size + 1, 2, none⟩ = some (.int .i64 c2) := by rw [blk_cell HY.out]; rfl
      have y3 : wr.cell? ⟨w.heap.size + 1, 3, none⟩ = some (.int .i64 a2) := by rw [blk_cell HY.out]; rfl
      have HXY := Hd.mk (show ∀ w', Below wr.heap.size wr w' → w'.cell? ⟨w.heap.size, 0, none⟩ = some (.slice A xs.length c) ∧ w'.cell? ⟨w.heap.size, 1, none⟩ = some (.int .i64 r1) ∧ w'.cell? ⟨w.heap.size, 2, none⟩ = some (.int .i64 c1) ∧ w'.cell? ⟨w.heap.size, 3, none⟩ = some (.int .i64 a1) ∧ w'.cell? ⟨w.heap.size + 1, 0, none⟩ = some (.slice B ys.length d) ∧ w'.cell? ⟨w.heap.size + 1, 1, none⟩ = some (.int .i64 r2) ∧ w'.cell? ⟨w.heap.size + 1, 2, none⟩ = some (.int .i64 c2) ∧ w'.cell? ⟨w.heap.size + 1, 3, none⟩ = some (.int .i64 a2) from
        fun w' h => ⟨below_cell h x0, below_cell h x1, below_cell h x2, below_cell h x3, below_cell h y0, below_cell h y1, below_cell h y2, below_cell h y3⟩)
      have HRA := Hd.mk (show ∀ w', Below wr.heap.size wr w' → RR w' (.slice A xs.length c) xs from fun w' h => HV.out.below (below_next HBW.out h))
      have HRB := Hd.mk (show ∀ w', Below wr.heap.size wr w' → RR w' (.slice B ys.length d) ys from fun w' h => HU.out.below (below_next HBW.out h))
      have HTE := Hd.mk (textsEq_refl (textF xs))
      have hb0 : Below wr.heap.size wr wr.drew := ⟨rfl, rfl, rfl, Nat.le_refl _, fun _ _ => rfl⟩
      have htl : (textF xs).length = xs.length := by simp [textF]
      have HTL := Hd.mk htl
      clear htl hlt
      cases sb
      all_goals
        go_region_held3 (fun w' => w'.cell? ⟨w.heap.size, 0, none⟩ = some (.slice A xs.length c) ∧ w'.cell? ⟨w.heap.size, 1, none⟩ = some (.int .i64 r1) ∧ w'.cell? ⟨w.heap.size, 2, none⟩ = some (.int .i64 c1) ∧ w'.cell? ⟨w.heap.size, 3, none⟩ = some (.int .i64 a1) ∧ w'.cell? ⟨w.heap.size + 1, 0, none⟩ = some (.slice B ys.length d) ∧ w'.cell? ⟨w.heap.size + 1, 1, none⟩ = some (.int .i64 r2) ∧ w'.cell? ⟨w.heap.size + 1, 2, none⟩ = some (.int .i64 c2) ∧ w'.cell? ⟨w.heap.size + 1, 3, none⟩ = some (.int .i64 a2))
          (first | exact HXY.out _ hcEq | exact HXY.out _ hcU | exact HXY.out _ hcT | exact HXY.out _ hcAA | exact HXY.out _ hcN | exact HXY.out _ hcM | exact HXY.out _ hcL | go_keep)
          (first
            | (go_at_call 11; (with_reducible refine (HLI.out _ ?_).mono ?_); (exact hb0); rintro e wL ⟨rfl, hbL⟩; have hcL : Below wr.heap.size wr wL := undrew hbL)
            | (go_at_call 26; (with_reducible refine (HC26.out _ ?_ ?_).mono ?_); (first | exact HRA.out _ hcN | exact HRA.out _ hcL); (first | exact HRB.out _ hcN | exact HRB.out _ hcL); rintro e wM ⟨rfl, hbM⟩; have hcM : Below wr.heap.size wr wM := (by first | exact below_next hcN hbM | exact below_next hcL hbM))
            | (go_at_call 27; (with_reducible refine (HC27.out _ ?_ ?_).mono ?_); (first | exact HRA.out _ hcM | exact HRA.out _ hcL); (first | exact HRB.out _ hcM | exact HRB.out _ hcL); rintro e wN ⟨rfl, hbN⟩; have hcN : Below wr.heap.size wr wN := (by first | exact below_next hcM hbN | exact below_next hcL hbN))
            | (go_at_call 26; (with_reducible refine (HCAA.out _ ?_).mono ?_); (first | exact HRA.out _ hcN | exact HRA.out _ hcM); rintro e wAA ⟨rfl, hbAA⟩; have hcAA : Below wr.heap.size wr wAA := (by first | exact below_next hcN hbAA | exact below_next hcM hbAA))
            | (go_at_call 29; (with_reducible refine (HC29.out _ ?_).mono ?_); (first | exact HRA.out _ hcU | exact HRA.out _ hcAA); rintro e wT ⟨vT, rfl, hoT, hbT⟩; have hcT : Below wr.heap.size wr wT := (by first | exact below_next hcU hbT | exact below_next hcAA hbT))
            | (go_at_call 30; (with_reducible refine (HC30.out _ ?_).mono ?_); (first | exact HRA.out _ hcT | exact HRA.out _ hcAA); rintro e wU ⟨vU, rfl, hoU, hbU⟩; have hcU : Below wr.heap.size wr wU := (by first | exact below_next hcT hbU | exact below_next hcAA hbU))
            | (go_at_call 28; (with_reducible refine (equalTexts_calls _ _ (textF xs) (textF xs) _ ?_ ?_).mono ?_); (rw [HTL.out]; first | exact own_rd hoT | exact Rd.below (own_rd hoT) hbU); (rw [HTL.out]; first | exact own_rd hoU | exact Rd.below (own_rd hoU) hbT); rw [HTE.out]; rintro e wE ⟨rfl, hbE⟩; have hcEq : Below wr.heap.size wr wE := (by first | exact below_next hcT hbE | exact below_next hcU hbE)))
        all_goals
          go_wp2_with fail
          go_ret
          exact ⟨rfl, below_next HBW.out hcEq⟩
end Go.Proofs.YthpfhlhoekgpjaaDoor
