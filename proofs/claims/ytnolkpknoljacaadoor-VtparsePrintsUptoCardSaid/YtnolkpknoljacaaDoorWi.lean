/- The law VtparsePrints. -/
import Derived.Test.YtnolkpknoljacaaDoorWh
set_option linter.unusedVariables false
set_option linter.unusedSimpArgs false
namespace Go.Proofs.YtnolkpknoljacaaDoor
open Go.RowKit Go.Lib

def i32s (ts : List Int) : List Value := ts.map fun t => .int .i32 t
theorem encP_at {ns : List Nat} {k : Nat} (hk : k < ns.length) (j : Nat) (hj : j < 7) : (encA (ns.map fun (r : Nat) => pa (r : Int)))[k * 7 + j]? = (AV.cells (pa (ns[k] : Int)))[j]? := by
  induction ns generalizing k with
  | nil => simp at hk
  | cons n ns ih =>
    have e : encA ((n :: ns).map fun (r : Nat) => pa (r : Int)) = AV.cells (pa (n : Int)) ++ encA (ns.map fun (r : Nat) => pa (r : Int)) := by simp [encA]
    rw [e]
    cases k with
    | zero =>
      rw [List.getElem?_append_left (by simp [AV.cells]; omega)]
      simp
    | succ k =>
      rw [List.getElem?_append_right (by simp [AV.cells]; omega)]
      have : (k + 1) * 7 + j - (AV.cells (pa (n : Int))).length = k * 7 + j := by simp [AV.cells]; omega
      rw [this]
      simpa using ih (by simpa using hk)
theorem own_cell {w : World} {base e size n g cap : Nat} {xs : List Value} (h : w.ownsRow base e size (.slice (some ⟨g, 0, none⟩) n cap) n xs) {j : Nat} {u : Value} (hj : xs[j]? = some u) : w.cell? ⟨g, j, none⟩ = some u := by
  rcases h.2 with ⟨e1, _⟩ | ⟨g', cap', cur, e1, _, hg, _, _, _, ht⟩
  · cases e1
  · injection e1 with e2 _ _
    cases e2
    rw [blk_cell hg, ← Array.getElem?_toList]
    rw [← ht, List.getElem?_take] at hj
    split at hj
    · exact hj
    · cases hj
set_option maxRecDepth 100000 in
set_option maxHeartbeats 8000000 in
theorem prints_calls (tv : Value) (ts : List Int) (w : World) (hT : Tabs w) (hv : Rd w tv ts.length (i32s ts)) (hn : ts.length ≤ 1500000) :
    Calls Tryd.prog 3 #[tv] w fun e w' => e = .returned (.bool true) ∧ Below w.heap.size w w' := by
  have HV := Hd.mk hv
  have HT := Hd.mk hT
  obtain ⟨A, c, rfl, -, -, -⟩ := hv
  clear hT
  obtain ⟨N, hN⟩ : ∃ N, N = ts.length := ⟨_, rfl⟩
  rw [← hN]
  rw [← hN] at HV hn
  have HN := Hd.mk hN
  clear hN
  go_enter Tryd.func3, Tryd.ntmps3
  go_wp2_with fail
  go_loopg [3, 11] N (fun gk vo i wr => ∃ (k : Nat) (v : Value), k + gk = N ∧ i = .int .i64 k ∧ vo = v ∧ Hd (wr.ownsRow w.heap.size 21 1 v (keptL (ts.take k)).length (r32 (keptL (ts.take k))) ∧ Below w.heap.size w wr))
  case atStart => exact ⟨0, _, by omega, rfl, rfl, ⟨World.ownsRow_nil _ _ _ _, Below.refl _ _⟩⟩
  case round =>
    obtain ⟨k, v, hk, rfl, hvv, HS⟩ := hrel
    obtain rfl := hvv.symm
    by_cases hlt : k < N
    · have hlt' : k < ts.length := by rw [← HN.out]; exact hlt
      have HKT := Hd.mk (keptL_take ts hlt')
      obtain ⟨b, o, c', hv, -, -, hbl, hc⟩ := Rd.at_ (Rd.below HV.out HS.out.2) (by intro e; have := congrArg List.length e; simp [i32s] at this; rw [this] at hlt'; simp at hlt')
      injection hv with hv1 hv2 hv3
      clear hv2
      subst hv1 hv3
      have g0 : wr.cell? ⟨b, o + k, none⟩ = some (.int .i32 ts[k]) := hc k _ (by simp [i32s, hlt'])
      clear hc
      generalize ts[k] = t at *
      clear hlt'

      have HFAIL : Hd (¬ keepR t → (wr.ownsRow w.heap.size 21 1 v (keptL (ts.take (k + 1))).length (r32 (keptL (ts.take (k + 1)))) ∧ Below w.heap.size w wr)) := ⟨fun h => by rw [HKT.out, if_neg h, List.append_nil]; exact HS.out⟩
      have hz := HS.out.2.size
      have hb4 : ((keptL (ts.take k)).length + 1) * 4 ≤ 140737488355328 := by
        have h1 := keptL_len (ts.take k)
        have h2 : (ts.take k).length ≤ k := by simp; omega
        omega
      by_cases hkeep : keepR t
      · have HKE := Hd.mk hkeep
        unfold keepR at hkeep
        have hthree : t < 128 ∨ (159 < t ∧ t < 55296) ∨ 57343 < t := by omega
        rcases hthree with h3 | h3 | h3
        · have d0 : decide ((32 : Int) ≤ t) = true := by simp <;> omega
          have d1 : (t != (127 : Int)) = true := by simp <;> omega
          have d2 : decide ((128 : Int) ≤ t) = false := by simp <;> omega
          have d3 : decide (t < (55296 : Int)) = true := by simp <;> omega
          have d4 : decide (t ≤ (1114111 : Int)) = true := by simp <;> omega
          clear h3 hkeep
          go_wp2_with (at_builtin; refine app_lit rfl (.tmp 42) (.tmp 44) 22 21 _ 1 4 rfl Tryd.underlying22 Tryd.info21 rfl (by decide) (by decide) w.heap.size v (keptL (ts.take k)).length 1 (r32 (keptL (ts.take k))) _ rfl rfl rfl ?h1 HS.out.1 hz hb4 ?_)
          case h1 => exact rfl
          intro v5 w5 hown5 hgr5 hat5
          have HR : Hd (w5.ownsRow w.heap.size 21 1 v5 (keptL (ts.take (k + 1))).length (r32 (keptL (ts.take (k + 1)))) ∧ Below w.heap.size w w5) := by
            refine ⟨?_, HS.out.2.grown hgr5 hz (fun j hj => (own_lt HS.out.1 j hj).1)⟩
            rw [HKT.out, if_pos HKE.out, r32_app, List.length_append]
            have ht : ((t.toNat : Nat) : Int) = t := by have := HKE.out; unfold keepR at this; omega
            simpa [r32, ht] using hown5
          clear hown5 hgr5 hat5
          go_wp2_with fail
          go_roundg (gk - 1)
          case measure => omega
          case rel => exact ⟨k + 1, _, by omega, by go_num, rfl, HR⟩
        · have d0 : decide ((32 : Int) ≤ t) = true := by simp <;> omega
          have d1 : (t != (127 : Int)) = true := by simp <;> omega
          have d2 : decide ((128 : Int) ≤ t) = true := by simp <;> omega
          have d3 : decide (t ≤ (159 : Int)) = false := by simp <;> omega
          have d4 : decide (t < (55296 : Int)) = true := by simp <;> omega
          have d5 : decide (t ≤ (1114111 : Int)) = true := by simp <;> omega
          clear h3 hkeep
          go_wp2_with (at_builtin; refine app_lit rfl (.tmp 42) (.tmp 44) 22 21 _ 1 4 rfl Tryd.underlying22 Tryd.info21 rfl (by decide) (by decide) w.heap.size v (keptL (ts.take k)).length 1 (r32 (keptL (ts.take k))) _ rfl rfl rfl ?h1 HS.out.1 hz hb4 ?_)
          case h1 => exact rfl
          intro v5 w5 hown5 hgr5 hat5
          have HR : Hd (w5.ownsRow w.heap.size 21 1 v5 (keptL (ts.take (k + 1))).length (r32 (keptL (ts.take (k + 1)))) ∧ Below w.heap.size w w5) := by
            refine ⟨?_, HS.out.2.grown hgr5 hz (fun j hj => (own_lt HS.out.1 j hj).1)⟩
            rw [HKT.out, if_pos HKE.out, r32_app, List.length_append]
            have ht : ((t.toNat : Nat) : Int) = t := by have := HKE.out; unfold keepR at this; omega
            simpa [r32, ht] using hown5
          clear hown5 hgr5 hat5
          go_wp2_with fail
          go_roundg (gk - 1)
          case measure => omega
          case rel => exact ⟨k + 1, _, by omega, by go_num, rfl, HR⟩
        · have d0 : decide ((32 : Int) ≤ t) = true := by simp <;> omega
          have d1 : (t != (127 : Int)) = true := by simp <;> omega
          have d2 : decide ((128 : Int) ≤ t) = true := by simp <;> omega
          have d3 : decide (t ≤ (159 : Int)) = false := by simp <;> omega
          have d4 : decide (t < (55296 : Int)) = false := by simp <;> omega
          have d5 : decide ((57343 : Int) < t) = true := by simp <;> omega
          have d6 : decide (t ≤ (1114111 : Int)) = true := by simp <;> omega
          clear h3 hkeep
          go_wp2_with (at_builtin; refine app_lit rfl (.tmp 42) (.tmp 44) 22 21 _ 1 4 rfl Tryd.underlying22 Tryd.info21 rfl (by decide) (by decide) w.heap.size v (keptL (ts.take k)).length 1 (r32 (keptL (ts.take k))) _ rfl rfl rfl ?h1 HS.out.1 hz hb4 ?_)
          case h1 => exact rfl
          intro v5 w5 hown5 hgr5 hat5
          have HR : Hd (w5.ownsRow w.heap.size 21 1 v5 (keptL (ts.take (k + 1))).length (r32 (keptL (ts.take (k + 1)))) ∧ Below w.heap.size w w5) := by
            refine ⟨?_, HS.out.2.grown hgr5 hz (fun j hj => (own_lt HS.out.1 j hj).1)⟩
            rw [HKT.out, if_pos HKE.out, r32_app, List.length_append]
            have ht : ((t.toNat : Nat) : Int) = t := by have := HKE.out; unfold keepR at this; omega
            simpa [r32, ht] using hown5
          clear hown5 hgr5 hat5
          go_wp2_with fail
          go_roundg (gk - 1)
          case measure => omega
          case rel => exact ⟨k + 1, _, by omega, by go_num, rfl, HR⟩
      · have hnk := hkeep
        unfold keepR at hkeep
        have hfive : t < 32 ∨ t = 127 ∨ (128 ≤ t ∧ t ≤ 159) ∨ (55296 ≤ t ∧ t ≤ 57343) ∨ 1114111 < t := by omega
        rcases hfive with h5 | h5 | h5 | h5 | h5
        · have d0 : decide ((32 : Int) ≤ t) = false := by simp <;> omega
          have HR := Hd.mk (HFAIL.out hnk)
          clear hnk h5 hkeep
          go_wp2_with fail
          go_roundg (gk - 1)
          case measure => omega
          case rel => exact ⟨k + 1, _, by omega, by go_num, rfl, HR⟩
        · have d0 : decide ((32 : Int) ≤ t) = true := by simp <;> omega
          have d1 : (t != (127 : Int)) = false := by simp <;> omega
          have HR := Hd.mk (HFAIL.out hnk)
          clear hnk h5 hkeep
          go_wp2_with fail
          go_roundg (gk - 1)
          case measure => omega
          case rel => exact ⟨k + 1, _, by omega, by go_num, rfl, HR⟩
        · have d0 : decide ((32 : Int) ≤ t) = true := by simp <;> omega
          have d1 : (t != (127 : Int)) = true := by simp <;> omega
          have d2 : decide ((128 : Int) ≤ t) = true := by simp <;> omega
          have d3 : decide (t ≤ (159 : Int)) = true := by simp <;> omega
          have HR := Hd.mk (HFAIL.out hnk)
          clear hnk h5 hkeep
          go_wp2_with fail
          go_roundg (gk - 1)
          case measure => omega
          case rel => exact ⟨k + 1, _, by omega, by go_num, rfl, HR⟩
        · have d0 : decide ((32 : Int) ≤ t) = true := by simp <;> omega
          have d1 : (t != (127 : Int)) = true := by simp <;> omega
          have d2 : decide ((128 : Int) ≤ t) = true := by simp <;> omega
          have d3 : decide (t ≤ (159 : Int)) = false := by simp <;> omega
          have d4 : decide (t < (55296 : Int)) = false := by simp <;> omega
          have d5 : decide ((57343 : Int) < t) = false := by simp <;> omega
          have HR := Hd.mk (HFAIL.out hnk)
          clear hnk h5 hkeep
          go_wp2_with fail
          go_roundg (gk - 1)
          case measure => omega
          case rel => exact ⟨k + 1, _, by omega, by go_num, rfl, HR⟩
        · have d0 : decide ((32 : Int) ≤ t) = true := by simp <;> omega
          have d1 : (t != (127 : Int)) = true := by simp <;> omega
          have d2 : decide ((128 : Int) ≤ t) = true := by simp <;> omega
          have d3 : decide (t ≤ (159 : Int)) = false := by simp <;> omega
          have d4 : decide (t < (55296 : Int)) = false := by simp <;> omega
          have d5 : decide ((57343 : Int) < t) = true := by simp <;> omega
          have d6 : decide (t ≤ (1114111 : Int)) = false := by simp <;> omega
          have HR := Hd.mk (HFAIL.out hnk)
          clear hnk h5 hkeep
          go_wp2_with fail
          go_roundg (gk - 1)
          case measure => omega
          case rel => exact ⟨k + 1, _, by omega, by go_num, rfl, HR⟩
    · obtain rfl : k = N := by omega
      have HOK := Hd.mk (keptL_ok (ts.take k))
      have hl0 : (keptL (ts.take k)).length ≤ 1500000 := by
        have h1 := keptL_len (ts.take k)
        have h2 : (ts.take k).length ≤ k := by simp; omega
        omega
      generalize keptL (ts.take k) = ns at *
      obtain ⟨S, hcv1, hS⟩ := conv_runes wr v ns HS.out.1
      obtain ⟨W2, c2, hcv2, hb2, hlt2, hc2⟩ := conv_bytes wr S ns hS
      have HC2 := Hd.mk hc2
      have HBB := Hd.mk (below_next HS.out.2 hb2)
      have HTX := Hd.mk (below_own HS.out.1 hb2)
      obtain ⟨Av, cv, hvs⟩ := own_slice HS.out.1
      subst hvs
      clear hc2 hb2 hS
      go_wp2_with fail
      refine (allR_calls ns wr.heap.size c2 W2 HOK.out (HT.out.below HBB.out) hl0 hlt2 HC2.out).mono ?_
      rintro e w3 ⟨v3, rfl, ho3, hb3⟩
      have HG3 := Hd.mk (own_mono ho3 HBB.out.size)
      have HB3 := Hd.mk (below_next HBB.out hb3)
      have HT3 := Hd.mk (below_own HTX.out hb3)
      obtain ⟨A3, c3, hvs⟩ := own_slice ho3
      subst hvs
      clear ho3 hb3 hcv1 hcv2 HC2 hlt2
      go_wp2_with fail
      refine (live_calls _).mono ?_
      rintro e w4 ⟨rfl, hb4⟩
      have HG4 := Hd.mk (below_own HG3.out hb4)
      have HB4 := Hd.mk (below_next HB3.out hb4)
      have HT4 := Hd.mk (below_own HT3.out hb4)
      clear hb4
      go_wp2_with fail
      clear hk
      go_loopg [62] ns.length (fun gk i wl => ∃ k : Nat, k + gk = ns.length ∧ i = .int .i64 k ∧ Hd (Below w.heap.size w wl ∧ wl.ownsRow w.heap.size 21 1 (.slice Av ns.length cv) ns.length (r32 ns) ∧ wl.ownsRow w.heap.size 29 7 (.slice A3 ns.length c3) ns.length (encA (ns.map fun (r : Nat) => pa (r : Int)))))
      case atStart => exact ⟨0, by omega, rfl, ⟨HB4.out, HT4.out, HG4.out⟩⟩
      case round =>
        obtain ⟨k2, hk2, rfl, HL⟩ := hrel
        by_cases hlt3 : k2 < ns.length
        · obtain ⟨g1, d1, hv, -, hgl1, -, -⟩ := own_form HL.out.2.1 (by omega)
          injection hv with hv1 hv2 hv3
          subst hv1 hv3
          clear hv2
          obtain ⟨g3, d3, hv, -, hgl3, -, -⟩ := own_form HL.out.2.2 (by omega)
          injection hv with hv1 hv2 hv3
          subst hv1 hv3
          clear hv2
          have t0 : wr.cell? ⟨g1, k2, none⟩ = some (.int .i32 (ns[k2] : Int)) := own_cell HL.out.2.1 (by simp [r32, hlt3])
          have p0 : wr.cell? ⟨g3, k2 * 7, none⟩ = some (.int .i64 1) := own_cell HL.out.2.2 (encP_at hlt3 0 (by decide))
          have p1 : wr.cell? ⟨g3, k2 * 7 + 1, none⟩ = some (.int .i32 (ns[k2] : Int)) := own_cell HL.out.2.2 (encP_at hlt3 1 (by decide))
          have p2 : wr.cell? ⟨g3, k2 * 7 + 2, none⟩ = some (.int .u8 0) := own_cell HL.out.2.2 (encP_at hlt3 2 (by decide))
          have p3 : wr.cell? ⟨g3, k2 * 7 + 3, none⟩ = some (.int .u8 0) := own_cell HL.out.2.2 (encP_at hlt3 3 (by decide))
          have p4 : wr.cell? ⟨g3, k2 * 7 + 4, none⟩ = some (.slice none 0 0) := own_cell HL.out.2.2 (encP_at hlt3 4 (by decide))
          have p5 : wr.cell? ⟨g3, k2 * 7 + 5, none⟩ = some (.string ⟨#[]⟩) := own_cell HL.out.2.2 (encP_at hlt3 5 (by decide))
          have p6 : wr.cell? ⟨g3, k2 * 7 + 6, none⟩ = some (.string ⟨#[]⟩) := own_cell HL.out.2.2 (encP_at hlt3 6 (by decide))
          generalize ns[k2] = r at *
          go_upto_region 14 with (fail)
          go_quiet (fail)
          have hbx : Below wr.heap.size wr ((wr.alloc (.cells #[.int .i64 1, .int .i32 (r : Int), .int .u8 0, .int .u8 0, .slice none 0 0, .string ⟨#[]⟩, .string ⟨#[]⟩] 29)).drewN nq) := below_next (below_alloc1 wr _) (quiet_below nq)
          have HLN := Hd.mk (And.intro (below_next HL.out.1 hbx) (And.intro (below_own HL.out.2.1 hbx) (below_own HL.out.2.2 hbx)))
          clear hbx t0 p0 p1 p2 p3 p4 p5 p6
          go_wp2_with fail
          go_roundg (gk - 1)
          case measure => omega
          case rel => exact ⟨k2 + 1, by omega, by go_num, HLN⟩
        · obtain rfl : k2 = ns.length := by omega
          have HBL := Hd.mk HL.out.1
          go_wp2_with fail
          go_ret
          exact ⟨rfl, HBL.out⟩
end Go.Proofs.YtnolkpknoljacaaDoor
