/- LayoutFlows: the walk. -/
import Derived.Test.YthpfhlhoekgpjaaDoorFa
import Derived.Test.YthpfhlhoekgpjaaDoorY
set_option linter.unusedVariables false
set_option linter.unusedSimpArgs false
namespace Go.Proofs.YthpfhlhoekgpjaaDoor
open Go.RowKit

def FlowP (line : List Int) (cols : Nat) (F : List (List Cell)) : Prop := F.flatten = cellsF line ∧ ∀ i (hi : i + 1 < F.length), F[i].length = cols
theorem cellEq_refl (c : Cell) : cellEq c c = true := by simp [cellEq]
theorem cellsEqB_refl (l : List Cell) : cellsEqB l l = true := by
  unfold cellsEqB
  induction l with
  | nil => rfl
  | cons c l ih => rw [eqAll, cellEq_refl, ih]; rfl

set_option maxRecDepth 100000 in
set_option maxHeartbeats 4000000 in
theorem flows_calls (v : Value) (line : List Int) (cols : Int) (w : World) (hL : Laid w) (hv : RI w v line) :
    Calls Tryd.prog 4 #[v, .int .i64 cols] w fun e w' => e = .returned (.bool true) ∧ Below w.heap.size w w' := by
  have HV := Hd.mk hv
  have HL := Hd.mk hL
  obtain ⟨A, c, rfl, l1, l2, -⟩ := hv
  have HLI := Hd.mk (live_calls w hL)
  have hl3 : line.length ≤ 9223372036854775807 := Nat.le_trans l1 (by unfold maxLen at l2; omega)
  clear hL l1 l2
  by_cases a1 : cols < 8
  · go_enter Tryd.func4, Tryd.ntmps4
    go_wp2_with (go_at_call 11; refine HLI.out.mono ?_; rintro e w2 ⟨rfl, hb2⟩)
    exact bodyPost_ret (v := .bool true) (by simp [results, Tryd.results4, go_sem]) rfl ⟨rfl, hb2⟩
  · by_cases a2 : 200 < cols
    · go_enter Tryd.func4, Tryd.ntmps4
      go_wp2_with (go_at_call 11; refine HLI.out.mono ?_; rintro e w2 ⟨rfl, hb2⟩)
      exact bodyPost_ret (v := .bool true) (by simp [results, Tryd.results4, go_sem]) rfl ⟨rfl, hb2⟩
    · by_cases a3 : 1024 < line.length
      · go_enter Tryd.func4, Tryd.ntmps4
        go_wp2_with (go_at_call 11; refine HLI.out.mono ?_; rintro e w2 ⟨rfl, hb2⟩)
        exact bodyPost_ret (v := .bool true) (by simp [results, Tryd.results4, go_sem]) rfl ⟨rfl, hb2⟩
      · obtain ⟨cn, rfl⟩ := Int.eq_ofNat_of_zero_le (show 0 ≤ cols by omega)
        go_enter Tryd.func4, Tryd.ntmps4
        go_wp2_with (go_at_call 11; refine HLI.out.mono ?_; rintro e w2 ⟨rfl, hb2⟩; have HB2 := Hd.mk hb2; clear hb2)
        go_loopg [31] line.length (fun gk i wr => ∃ k : Nat, k + gk = line.length ∧ i = .int .i64 k ∧ Hd (∀ r ∈ line.take k, widthF r ≠ 2) ∧ Hd (Below w.heap.size w wr))
        case atStart => exact ⟨0, by omega, rfl, ⟨by simp⟩, HB2⟩
        case round =>
          obtain ⟨k, hk, rfl, HF, HB⟩ := hrel
          by_cases hlt : k < line.length
          · obtain ⟨b1, o1, c1, hv, -, -, -, hc1⟩ := RI.at_ (Rd.below HV.out HB.out) hlt
            injection hv with hv1 hv2 hv3
            subst hv1 hv3
            have g1 := hc1 k hlt
            clear hc1
            have HS := Hd.mk (show line.take (k + 1) = line.take k ++ [line[k]] by rw [List.take_add_one, List.getElem?_eq_getElem hlt]; rfl)
            generalize line[k] = r at *
            by_cases hw : widthF r = 2
            · have hwb : (widthF r == 2) = true := beq_iff_eq.2 hw
              clear hw
              go_wp2_with (go_at_call 13; refine (width_calls r _ (HL.out.step HB.out)).mono ?_; rintro e w3 ⟨rfl, hb3⟩)
              exact bodyPost_ret (v := .bool true) (by simp [results, Tryd.results4, go_sem]) rfl ⟨rfl, below_next HB.out hb3⟩
            · have hwb : (widthF r == 2) = false := beq_eq_false_iff_ne.2 hw
              have HW := Hd.mk hw
              clear hw
              go_wp2_with (go_at_call 13; refine (width_calls r _ (HL.out.step HB.out)).mono ?_; rintro e w3 ⟨rfl, hb3⟩; have HB3 := Hd.mk (below_next HB.out hb3); clear hb3)
              go_roundg (gk - 1)
              case measure => omega
              case rel =>
                refine ⟨k + 1, by omega, by go_num, ⟨?_⟩, HB3⟩
                intro x hx
                rw [HS.out] at hx
                rcases List.mem_append.1 hx with hx | hx
                · exact HF.out x hx
                · rw [List.mem_singleton.1 hx]; exact HW.out
          · have hkk : k = line.length := by omega
            subst hkk
            have HNW := Hd.mk (show ∀ r ∈ line, widthF r ≠ 2 by have := HF.out; rwa [List.take_length] at this)
            have HFL : Hd (FlowP line cn (flowRows line cn)) := ⟨flows_law line cn (by omega) HNW.out⟩
            have hcl := cellsF_len line
            have HFD := Hd.mk (show (rowsF [] line 0 cn false).1 = flowRows line cn from rfl)
            have hlen := rowsF_len [] line 0 cn false (by simp) (by omega)
            rw [HFD.out] at hlen
            have HCK := Hd.mk (checkF_mk (np := ([] : List Int).length) (nl := line.length) (point := ((0 : Nat) : Int)) (rows := ((24 : Nat) : Int)) (cols := (cn : Int)) ⟨by omega, by omega, by omega, by omega, by simp, by omega, by omega, by omega⟩)
            clear hlt hcl
            obtain ⟨wo, rfl⟩ : ∃ x, x = wr := ⟨_, rfl⟩
            go_wp2_with fail
            refine (rows_calls _ _ [] line 0 24 cn false wo (HL.out.step HB.out) ⟨none, 0, rfl, Nat.le_refl _, Nat.zero_le _, .inl rfl⟩ (Rd.below HV.out HB.out) HCK.out).mono ?_
            rintro e w5 ⟨v5, rfl, ho5, hb5⟩
            rw [HFD.out] at ho5
            have HO5 := Hd.mk (ho5.below (below_alloc1 w5 (.cells #[.int .i64 (rowsF [] line 0 cn false).2.1, .int .i64 (rowsF [] line 0 cn false).2.2] 27)))
            obtain ⟨A5, c5, rfl⟩ := ho5.slice
            have HB5 := Hd.mk (below_next (below_next HB.out hb5) (below_alloc1 w5 (.cells #[.int .i64 (rowsF [] line 0 cn false).2.1, .int .i64 (rowsF [] line 0 cn false).2.2] 27)))
            clear ho5 hb5
            go_wp2_with fail
            generalize w5.alloc (.cells #[.int .i64 (rowsF [] line 0 cn false).2.1, .int .i64 (rowsF [] line 0 cn false).2.2] 27) = w6 at *
            have HTL := Hd.mk (cellsF_len line)
            obtain ⟨go, hgo⟩ : ∃ n, n = gk := ⟨_, rfl⟩
            subst hgo
            generalize flowRows line cn = R at *
            go_loopg [10, 51] R.length (fun gk vs i wr => ∃ (k : Nat) (vo : Value), k + gk = R.length ∧ i = .int .i64 k ∧ vo = vs ∧ Hd (OC wr w6.heap.size vo (R.take k).flatten) ∧ Hd (Below w6.heap.size w6 wr))
            case atStart => exact ⟨0, _, by omega, rfl, rfl, ⟨World.ownsRow_nil _ _ _ _⟩, ⟨Below.refl _ _⟩⟩
            case round =>
              obtain ⟨k, vo, hk, rfl, rfl, HOC, HBB⟩ := hrel
              have HBW := Hd.mk (below_then HB5.out HB5.out.size HBB.out)
              by_cases hlt : k < R.length
              · obtain ⟨g, cap, A1, c1, hv, -, -, hcell, HR⟩ := OR.at_ (HO5.out.below HBB.out) hlt
                injection hv with hv1 hv2 hv3
                clear hv2
                subst hv1 hv3
                have HT := Hd.mk (show (R.take (k + 1)).flatten = (R.take k).flatten ++ R[k] by rw [List.take_add_one, List.getElem?_eq_getElem hlt, List.flatten_append]; simp)
                have hln : (R.take k).flatten.length + R[k].length ≤ 8 * line.length := by
                  have e1 : ((R.take (k + 1)).flatten ++ (R.drop (k + 1)).flatten).length = R.flatten.length := by rw [← List.flatten_append, List.take_append_drop]
                  rw [HT.out, HFL.out.1] at e1
                  simp only [List.length_append] at e1
                  have := HTL.out
                  omega
                have HLEN := Hd.mk (HFL.out.2 k)
                have hz := HBB.out.size
                by_cases hk1 : k + 1 < R.length
                · have HN := Hd.mk (HLEN.out hk1)
                  have hne : ((R[k].length : Int) != (cn : Int)) = false := by rw [HN.out]; simp
                  have hlt1 : decide ((k : Int) < (R.length : Int) - 1) = true := by simp; omega
                  generalize R[k] = r at *
                  go_wp2_with (at_builtin; refine app_rd rfl (.tmp 67) (.tmp 68) 35 37 _ 3 32 rfl Tryd.underlying35 Tryd.info37 rfl (by decide) (by decide) w6.heap.size _ _ _ r.length _ (encs r) rfl rfl (OC.rc HR.out) (encs_length r) (encs_one r) HOC.out hz (by omega) ?_)
                  intro v7 w7 hown hgr hat
                  obtain ⟨A7, c7, rfl⟩ := own_slice hown
                  have HO7 := Hd.mk (OC.mk (l := (R.take (k + 1)).flatten) hown (by rw [HT.out]; simp) (by rw [HT.out, encs_append]))
                  have HB7 := Hd.mk (HBB.out.grown hgr HBB.out.size (fun i hi => (own_lt HOC.out i hi).1))
                  clear hown hgr hat
                  go_wp2_with fail
                  go_roundg (gk - 1)
                  case measure => omega
                  case rel => exact ⟨k + 1, _, by omega, by go_num, rfl, HO7, HB7⟩
                · have hlt1 : decide ((k : Int) < (R.length : Int) - 1) = false := by simp; omega
                  generalize R[k] = r at *
                  go_wp2_with (at_builtin; refine app_rd rfl (.tmp 67) (.tmp 68) 35 37 _ 3 32 rfl Tryd.underlying35 Tryd.info37 rfl (by decide) (by decide) w6.heap.size _ _ _ r.length _ (encs r) rfl rfl (OC.rc HR.out) (encs_length r) (encs_one r) HOC.out hz (by omega) ?_)
                  intro v7 w7 hown hgr hat
                  obtain ⟨A7, c7, rfl⟩ := own_slice hown
                  have HO7 := Hd.mk (OC.mk (l := (R.take (k + 1)).flatten) hown (by rw [HT.out]; simp) (by rw [HT.out, encs_append]))
                  have HB7 := Hd.mk (HBB.out.grown hgr HBB.out.size (fun i hi => (own_lt HOC.out i hi).1))
                  clear hown hgr hat
                  go_wp2_with fail
                  go_roundg (gk - 1)
                  case measure => omega
                  case rel => exact ⟨k + 1, _, by omega, by go_num, rfl, HO7, HB7⟩
              · have HFC := Hd.mk (show (R.take k).flatten = cellsF line by rw [List.take_of_length_le (by omega)]; exact HFL.out.1)
                have HQ := Hd.mk (show OC wr w6.heap.size vo (cellsF line) by have := HOC.out; rwa [HFC.out] at this)
                have HTL2 := Hd.mk HTL.out
                obtain ⟨A7, c7, rfl⟩ := own_slice HQ.out
                go_wp2_with fail
                refine (cells_calls _ line wr (HL.out.step HBW.out) (Rd.below HV.out HBW.out) (by omega)).mono ?_
                rintro e w8 ⟨v8, rfl, ho8, hb8⟩
                have HQ8 := Hd.mk (HQ.out.below hb8)
                have HO8 := Hd.mk (OC.rc ho8)
                have HB8 := Hd.mk (below_next HBW.out hb8)
                obtain ⟨A8, c8, rfl⟩ := own_slice ho8
                clear ho8 hb8
                go_wp2_with fail
                refine (equalCells_calls _ _ (cellsF line) (cellsF line) w8 (OC.rc HQ8.out) HO8.out).mono ?_
                rw [cellsEqB_refl]
                rintro e w9 ⟨rfl, hb9⟩
                go_wp2_with fail
                exact bodyPost_ret (v := .bool true) (by simp [results, Tryd.results4, go_sem]) rfl ⟨rfl, below_next HB8.out hb9⟩
end Go.Proofs.YthpfhlhoekgpjaaDoor
