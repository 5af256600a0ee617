/- The reference's Text. -/
import Derived.Test.YthpfhlhoekgpjaaDoorU
set_option linter.unusedVariables false
set_option linter.unusedSimpArgs false
namespace Go.Proofs.YthpfhlhoekgpjaaDoor
open Go.RowKit

set_option maxRecDepth 100000 in
set_option maxHeartbeats 4000000 in
theorem rtext_calls (v : Value) (rows : List (List Cell)) (r c a : Int) (w : World) (hv : RR w v rows) (hn : rows.length ≤ 1000000000) (hs : ∀ l ∈ rows, ∀ k, k ≤ l.length → (rowText (l.take k)).size ≤ 1000000000) :
    Calls Tryd.prog 30 #[.agg #[v, .int .i64 r, .int .i64 c, .int .i64 a]] w fun e w' => ∃ v', e = .returned v' ∧ w'.ownsRow w.heap.size 9 1 v' rows.length (strs (textF rows)) ∧ Below w.heap.size w w' := by
  have HV := Hd.mk hv
  have HS := Hd.mk hs
  obtain ⟨A, c0, rfl, hn1, hn2⟩ := hv.slice
  clear hv hs
  go_enter Tryd.func30, Tryd.ntmps30
  have HB0 := Hd.mk (below_alloc1 w (.cells #[.slice A rows.length c0, .int .i64 r, .int .i64 c, .int .i64 a] 29))
  have HX0 := Hd.mk (heap_alloc_new w (.cells #[.slice A rows.length c0, .int .i64 r, .int .i64 c, .int .i64 a] 29))
  go_wp2_with fail
  generalize w.alloc (.cells #[.slice A rows.length c0, .int .i64 r, .int .i64 c, .int .i64 a] 29) = w0 at *
  go_loopg [3, 4] rows.length (fun gk s i wr => ∃ (k : Nat) (vo : Value), k + gk = rows.length ∧ i = .int .i64 k ∧ vo = s ∧ Hd (wr.ownsRow w0.heap.size 9 1 vo k (strs (textF (rows.take k)))) ∧ Hd (Below w0.heap.size w0 wr))
  case atStart => exact ⟨0, _, by omega, rfl, rfl, ⟨World.ownsRow_nil _ _ _ _⟩, ⟨Below.refl _ _⟩⟩
  case round =>
    obtain ⟨k, vo, hk, rfl, rfl, HO, HB⟩ := hrel
    have HX := Hd.mk (box_touch HX0.out (Touch.of_below (S := fun _ => False) HB.out) id)
    have HBW := Hd.mk (below_next HB0.out HB.out)
    have x0 : wr.cell? ⟨w.heap.size, 0, none⟩ = some (.slice A rows.length c0) := by rw [blk_cell HX.out]; rfl
    have hm : rows.length ≤ 9223372036854775807 := by omega
    by_cases hlt : k < rows.length
    · obtain ⟨b, o, c1, A1, c1', hv, k1, k2, hcell, HR⟩ := RR.at_ (HV.out.below HBW.out) hlt
      injection hv with hv1 hv2 hv3
      clear hv2
      subst hv1 hv3
      have HSr := Hd.mk (HS.out rows[k] (List.getElem_mem _))
      have HTX := Hd.mk (show textF (rows.take (k + 1)) = textF (rows.take k) ++ [trimB (rowText rows[k]) 32] by unfold textF; rw [List.take_add_one, List.map_append]; simp [hlt])
      generalize rows[k] = row at *
      have hB := HB.out.size
      obtain ⟨go, hgo⟩ : ∃ n : Nat, n = gk := ⟨_, rfl⟩
      subst hgo
      obtain ⟨wo, hwo⟩ : ∃ n : World, n = wr := ⟨_, rfl⟩
      subst hwo
      have hrl : row.length ≤ c1' ∧ c1' ≤ maxLen := by
        obtain ⟨A', c', e, e1, e2, _⟩ := HR.out
        injection e with e3 e4 e5
        subst e5
        exact ⟨e1, e2⟩
      have hrl2 : row.length ≤ 9223372036854775807 := Nat.le_trans hrl.1 (by have := hrl.2; unfold maxLen at this; omega)
      clear hrl k1 k2
      have hd1 : decide (k < rows.length) = true := by simpa using hlt
      go_wp2_with fail
      go_loopg [5, 6] row.length (fun gk s j wr => ∃ m : Nat, m + gk = row.length ∧ j = .int .i64 m ∧ s = .string (rowText (row.take m)) ∧ wo = wr)
      case atStart => exact ⟨0, by omega, rfl, rfl, rfl⟩
      case round =>
        obtain ⟨m, hm, rfl, rfl, rfl⟩ := hrel
        by_cases hlm : m < row.length
        · obtain ⟨b2, o2, c2, hv, -, -, -, hc2⟩ := RC.at_ HR.out hlm
          injection hv with hv1 hv2 hv3
          clear hv2
          subst hv1 hv3
          obtain ⟨g0, g1, g2⟩ := hc2 m hlm
          clear hc2
          have HT := Hd.mk (rowText_succ row m hlm)
          have hsz : ¬ 9223372036854775807 < (rowText (row.take m)).size + row[m].t.size := by
            have := HSr.out (m + 1) (by omega)
            rw [HT.out, ByteArray.size_append] at this
            omega
          generalize row[m] = d at *
          go_wp2_with fail
          go_roundg (gk - 1)
          case measure => omega
          case rel => exact ⟨m + 1, by omega, by go_num, by rw [HT.out], rfl⟩
        · have hmm : m = row.length := by omega
          subst hmm
          rw [List.take_length]
          have hts : (rowText row).size ≤ 9223372036854775807 := by
            have := HSr.out row.length (Nat.le_refl _)
            rw [List.take_length] at this
            omega
          go_wp2_with fail
          generalize rowText row = s at *
          go_loopg [5] s.size (fun gk v wr => ∃ t : ByteArray, t.size = gk ∧ gk ≤ 9223372036854775807 ∧ v = .string t ∧ Hd (trimB t 32 = trimB s 32) ∧ wo = wr)
          case atStart => exact ⟨s, rfl, hts, rfl, ⟨rfl⟩, rfl⟩
          case round =>
            obtain ⟨t, hz, hle, rfl, HT, rfl⟩ := hrel
            have HOR : Hd (wo.ownsRow w0.heap.size 9 1 vo k (strs (textF (rows.take k)))) := HO
            obtain ⟨Ao, co, rfl⟩ := own_slice HOR.out
            have hln : (k + 1) * 16 ≤ 140737488355328 := by omega
            have ending : Hd (∀ (u : ByteArray) (v5 : Value) (w5 : World), u = trimB s 32 → w5.ownsRow w0.heap.size 9 1 v5 (k + 1) (strs (textF (rows.take k)) ++ [.string u]) → w5.ownsRow w0.heap.size 9 1 v5 (k + 1) (strs (textF (rows.take (k + 1))))) := ⟨by
              rintro u v5 w5 rfl h
              rw [HTX.out]
              simpa [strs] using h⟩
            cases gk with
            | zero =>
              have HE := Hd.mk (trimB_nil t 32 hz)
              have HTE := Hd.mk (show t = trimB s 32 by rw [← HT.out, HE.out])
              go_wp2_with (at_builtin; refine app_lit rfl (.tmp 51) (.tmp 53) 54 9 _ 1 16 rfl Tryd.underlying54 Tryd.info9 rfl (by decide) (by decide) w0.heap.size _ _ 1 _ _ rfl rfl rfl ?h1 HOR.out hB hln ?_)
              case h1 => ((repeat' apply And.intro) <;> rfl)
              intro v5 w5 hown5 hgr5 hat5
              have HN := Hd.mk (And.intro (ending.out t v5 w5 HTE.out hown5) (HB.out.grown hgr5 hB (fun j hj => (own_lt HOR.out j hj).1)))
              clear hown5 hgr5 hat5
              go_wp2_with fail
              go_roundg (go - 1)
              case measure => omega
              case rel => exact ⟨k + 1, v5, by omega, by go_num, rfl, ⟨HN.out.1⟩, ⟨HN.out.2⟩⟩
            | succ n =>
              have hn' : n < t.size := by omega
              have hw1 : IntKind.i64.wrap ((n : Int) + 1 - 1) = n := by rw [Int.add_sub_cancel]; unfold IntKind.wrap; simp [IntKind.signed, IntKind.bits] <;> omega
              by_cases hc : t[n]'hn' = 32
              · have HE := Hd.mk (trimB_same t 32 n hz hc)
                have hq : (((t[n]'hn').toNat : Int) == 32) = true := by rw [hc]; rfl
                have hx : (t.extract 0 n).size = n := by simp; omega
                clear hc
                go_wp2_with fail
                go_roundg n
                case measure => omega
                case rel => exact ⟨t.extract 0 n, hx, by omega, rfl, ⟨by rw [← HT.out, HE.out]⟩, rfl⟩
              · have HE := Hd.mk (trimB_end t 32 n hz hc)
                have HTE := Hd.mk (show t = trimB s 32 by rw [← HT.out, HE.out])
                have hq : (((t[n]'hn').toNat : Int) == 32) = false := by
                  simp only [beq_eq_false_iff_ne, ne_eq]
                  intro e
                  exact hc (UInt8.toNat_inj.1 (by exact_mod_cast e))
                clear hc
                go_wp2_with (at_builtin; refine app_lit rfl (.tmp 51) (.tmp 53) 54 9 _ 1 16 rfl Tryd.underlying54 Tryd.info9 rfl (by decide) (by decide) w0.heap.size _ _ 1 _ _ rfl rfl rfl ?h1 HOR.out hB hln ?_)
                case h1 => ((repeat' apply And.intro) <;> rfl)
                intro v5 w5 hown5 hgr5 hat5
                have HN := Hd.mk (And.intro (ending.out t v5 w5 HTE.out hown5) (HB.out.grown hgr5 hB (fun j hj => (own_lt HOR.out j hj).1)))
                clear hown5 hgr5 hat5
                go_wp2_with fail
                go_roundg (go - 1)
                case measure => omega
                case rel => exact ⟨k + 1, v5, by omega, by go_num, rfl, ⟨HN.out.1⟩, ⟨HN.out.2⟩⟩
    · have hkk : k = rows.length := by omega
      subst hkk
      rw [List.take_length] at HO
      have hz0 := HB0.out.size
      go_wp2_with fail
      exact bodyPost_ret (v := vo) (by simp [results, Tryd.results30, go_sem]) rfl ⟨vo, rfl, own_mono HO.out hz0, HBW.out⟩
end Go.Proofs.YthpfhlhoekgpjaaDoor
