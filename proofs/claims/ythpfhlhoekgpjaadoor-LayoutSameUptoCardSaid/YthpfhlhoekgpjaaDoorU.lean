/- layout.Text. -/
import Derived.Test.YthpfhlhoekgpjaaDoorT
import Derived.Test.YthpfhlhoekgpjaaDoorR
set_option linter.unusedVariables false
set_option linter.unusedSimpArgs false
namespace Go.Proofs.YthpfhlhoekgpjaaDoor
open Go.RowKit

/-- Rows that are read. -/
def RR (w : World) (v : Value) (ll : List (List Cell)) : Prop := ∃ vs, Rd w v ll.length vs ∧ vs.length = ll.length ∧ All2 (RC w) vs ll
theorem RR.below {w w' : World} {v : Value} {ll : List (List Cell)} (h : RR w v ll) (hb : Below w.heap.size w w') : RR w' v ll := by
  obtain ⟨vs, h1, h2, h3⟩ := h
  exact ⟨vs, Rd.below h1 hb, h2, h3.imp fun _ _ x => RC.below x hb⟩
theorem OR.rr {w : World} {B : Nat} {v : Value} {ll : List (List Cell)} (h : OR w B v ll) : RR w v ll := by
  obtain ⟨vs, h1, h2⟩ := h
  exact ⟨vs, own_rd h1, h2.length, h2.imp fun _ _ x => OC.rc x⟩
theorem RR.slice {w : World} {v : Value} {ll : List (List Cell)} (h : RR w v ll) : ∃ A c, v = .slice A ll.length c ∧ ll.length ≤ c ∧ c ≤ maxLen := by
  obtain ⟨vs, ⟨A, c, h1, h2, h3, _⟩, _⟩ := h
  exact ⟨A, c, h1, h2, h3⟩
theorem RR.at_ {w : World} {v : Value} {ll : List (List Cell)} (h : RR w v ll) {k : Nat} (hk : k < ll.length) :
    ∃ b o c A c', v = .slice (some ⟨b, o, none⟩) ll.length c ∧ ll.length ≤ c ∧ c ≤ maxLen ∧ w.cell? ⟨b, o + k, none⟩ = some (.slice A ll[k].length c') ∧ Hd (RC w (.slice A ll[k].length c') ll[k]) := by
  obtain ⟨vs, h1, h2, h3⟩ := h
  have hne : vs ≠ [] := fun e => by rw [e] at h2; simp at h2; omega
  obtain ⟨b, o, c, rfl, k1, k2, k3, hc⟩ := Rd.at_ h1 hne
  have hr := h3.get k (by omega) hk
  obtain ⟨A, c', e, _⟩ := id hr
  refine ⟨b, o, c, A, c', rfl, k1, k2, ?_, ⟨by rw [← e]; exact hr⟩⟩
  rw [← e]
  exact hc k _ (by simp [h2, hk])

def rowText (l : List Cell) : ByteArray := l.foldl (fun s c => s ++ c.t) ⟨#[]⟩
def textF (rows : List (List Cell)) : List ByteArray := rows.map (fun r => trimB (rowText r) 32)
theorem rowText_succ (l : List Cell) (k : Nat) (hk : k < l.length) : rowText (l.take (k + 1)) = rowText (l.take k) ++ l[k].t := by
  unfold rowText
  rw [List.take_add_one, List.foldl_append]
  simp [hk]

set_option maxRecDepth 100000 in
set_option maxHeartbeats 4000000 in
theorem text_calls (v : Value) (rows : List (List Cell)) (r c a : Int) (w : World) (hv : RR w v rows) (hn : rows.length ≤ 1000000000) (hs : ∀ l ∈ rows, ∀ k, k ≤ l.length → (rowText (l.take k)).size ≤ 1000000000) :
    Calls Tryd.prog 29 #[.agg #[v, .int .i64 r, .int .i64 c, .int .i64 a]] w fun e w' => ∃ v', e = .returned v' ∧ w'.ownsRow w.heap.size 9 1 v' rows.length (strs (textF rows)) ∧ Below w.heap.size w w' := by
  have HV := Hd.mk hv
  have HS := Hd.mk hs
  obtain ⟨A, c0, rfl, hn1, hn2⟩ := hv.slice
  clear hv hs
  go_enter Tryd.func29, Tryd.ntmps29
  go_wp2_with fail
  have HB0 := Hd.mk (below_alloc1 w (.cells #[.slice A rows.length c0, .int .i64 r, .int .i64 c, .int .i64 a] 29))
  generalize w.alloc (.cells #[.slice A rows.length c0, .int .i64 r, .int .i64 c, .int .i64 a] 29) = w0 at *
  go_loopg [3, 12] rows.length (fun gk s i wr => ∃ (k : Nat) (vo : Value), k + gk = rows.length ∧ i = .int .i64 k ∧ vo = s ∧ Hd (wr.ownsRow w.heap.size 9 1 vo k (strs (textF (rows.take k)))) ∧ Hd (Below w.heap.size w wr))
  case atStart => exact ⟨0, _, by omega, rfl, rfl, ⟨World.ownsRow_nil _ _ _ _⟩, HB0⟩
  case round =>
    obtain ⟨k, vo, hk, rfl, rfl, HO, HB⟩ := hrel
    by_cases hlt : k < rows.length
    · obtain ⟨b, o, c1, A1, c1', hv, k1, k2, hcell, HR⟩ := RR.at_ (HV.out.below HB.out) hlt
      injection hv with hv1 hv2 hv3
      clear hv2
      subst hv1 hv3
      have HSr := Hd.mk (HS.out rows[k] (List.getElem_mem _))
      have HTX := Hd.mk (show textF (rows.take (k + 1)) = textF (rows.take k) ++ [trimB (rowText rows[k]) 32] by unfold textF; rw [List.take_add_one, List.map_append]; simp [hlt])
      generalize rows[k] = row at *
      have hB := HB.out.size
      obtain ⟨go, hgo⟩ : ∃ n : Nat, n = gk := ⟨_, rfl⟩
      subst hgo
      obtain ⟨wo, hwo⟩ : ∃ n : World, n = wr := ⟨_, rfl⟩
      subst hwo
      have HRW := Hd.mk HR.out
      have hrl : row.length ≤ c1' ∧ c1' ≤ maxLen := by
        obtain ⟨A', c', e, e1, e2, _⟩ := HR.out
        injection e with e3 e4 e5
        subst e5
        exact ⟨e1, e2⟩
      have hrl2 : row.length ≤ 9223372036854775807 := Nat.le_trans hrl.1 (by have := hrl.2; unfold maxLen at this; omega)
      clear hrl
      have HWRB := Hd.mk HB.out
      have HOW := Hd.mk HO.out
      go_wp2_with fail
      go_loopg [6, 18] row.length (fun gk s j wr => ∃ m : Nat, m + gk = row.length ∧ j = .int .i64 m ∧ s = .string (rowText (row.take m)) ∧ Hd (Below wo.heap.size wo wr))
      case atStart => exact ⟨0, by omega, rfl, rfl, ⟨Below.refl _ _⟩⟩
      case round =>
        obtain ⟨m, hm, rfl, rfl, HX⟩ := hrel
        by_cases hlm : m < row.length
        · obtain ⟨b2, o2, c2, hv, -, -, -, hc2⟩ := RC.at_ (RC.below HR.out HX.out) hlm
          injection hv with hv1 hv2 hv3
          clear hv2
          subst hv1 hv3
          obtain ⟨g0, g1, g2⟩ := hc2 m hlm
          clear hc2
          have HT := Hd.mk (rowText_succ row m hlm)
          have hsz : ¬ 9223372036854775807 < (rowText (row.take m)).size + row[m].t.size := by
            have := HSr.out (m + 1) (by omega)
            rw [HT.out, ByteArray.size_append] at this
            omega
          generalize row[m] = d at *
          have hB2 := Hd.mk (below_next HX.out (below_alloc1 wr (.cells #[.string d.t, .int .i64 d.wd, .int .i64 d.a] 37)))
          go_wp2_with fail
          go_roundg (gk - 1)
          case measure => omega
          case rel => exact ⟨m + 1, by omega, by go_num, by rw [HT.out], hB2⟩
        · have hmm : m = row.length := by omega
          subst hmm
          rw [List.take_length]
          have hts : (rowText row).size ≤ 9223372036854775807 := by
            have := HSr.out row.length (Nat.le_refl _)
            rw [List.take_length] at this
            omega
          have hor : wr.ownsRow w.heap.size 9 1 vo k (strs (textF (rows.take k))) := below_own HOW.out HX.out
          have HOR := Hd.mk hor
          have hBr : w.heap.size ≤ wr.heap.size := Nat.le_trans hB HX.out.size
          have HBr := Hd.mk (below_then HWRB.out hB HX.out)
          obtain ⟨Ao, co, rfl⟩ := own_slice hor
          have hln : (k + 1) * 16 ≤ 140737488355328 := by omega
          clear hor
          have HTC := Hd.mk (fun w' => trimRight_calls (rowText row) w' hts)
          go_wp2_with (first
            | (go_at_call 51; refine (HTC.out _).mono ?_; rintro e w4 ⟨rfl, hw4⟩; subst hw4)
            | (at_builtin; refine app_lit rfl (.tmp 27) (.tmp 30) 54 9 _ 1 16 rfl Tryd.underlying54 Tryd.info9 rfl (by decide) (by decide) w.heap.size _ _ 1 _ _ rfl rfl rfl ?h1 HOR.out hBr hln ?_))
          case h1 => ((repeat' apply And.intro) <;> rfl)
          intro v5 w5 hown5 hgr5 hat5
          have HN := Hd.mk (And.intro hown5 (HBr.out.grown hgr5 hBr (fun j hj => (own_lt HOR.out j hj).1)))
          clear hown5 hgr5 hat5
          go_wp2_with fail
          go_roundg (go - 1)
          case measure => omega
          case rel =>
            refine ⟨k + 1, v5, by omega, by go_num, rfl, ⟨?_⟩, ⟨HN.out.2⟩⟩
            have := HN.out.1
            rw [HTX.out]
            simpa [strs] using this
    · have hkk : k = rows.length := by omega
      subst hkk
      rw [List.take_length] at HO
      go_wp2_with fail
      exact bodyPost_ret (v := vo) (by simp [results, Tryd.results29, go_sem]) rfl ⟨vo, rfl, HO.out, HB.out⟩
end Go.Proofs.YthpfhlhoekgpjaaDoor
