/- layout.bare; slices.EqualFunc over rows. -/
import Derived.Test.YthpfhlhoekgpjaaDoorN2
set_option linter.unusedVariables false
set_option linter.unusedSimpArgs false
namespace Go.Proofs.YthpfhlhoekgpjaaDoor
open Go.RowKit

def bareN (l : List (List Cell)) : Nat → Nat
  | 0 => 0
  | n + 1 => if (l.getD n []).length = 0 then bareN l n else n + 1
def bareF (rows : List (List Cell)) : List (List Cell) := (rows.map trimF).take (bareN (rows.map trimF) rows.length)
theorem RR.take {w : World} {A : Option Addr} {n c : Nat} {ll : List (List Cell)} (h : RR w (.slice A n c) ll) (k : Nat) (hk : k ≤ ll.length) : RR w (.slice A k c) (ll.take k) := by
  obtain ⟨vs, h1, h2, h3⟩ := h
  have hn : n = ll.length := by
    obtain ⟨A', c1, e, _⟩ := h1
    injection e
  subst hn
  have hc : ll.length ≤ c := by
    obtain ⟨A', c1, e, hh, _⟩ := h1
    injection e with e1 e2 e3
    rw [e3]; exact hh
  have := Rd.take h1 1 k c hk (by omega) (Nat.le_refl _)
  rw [Nat.mul_one] at this
  refine ⟨vs.take k, by rw [show (ll.take k).length = k by simp; omega]; exact this, by simp; omega, ?_⟩
  clear this h1
  induction vs generalizing ll k with
  | nil => cases ll with
    | nil => simp; trivial
    | cons _ _ => exact h3.elim
  | cons v vs ih => cases ll with
    | nil => exact h3.elim
    | cons l ll => cases k with
      | zero => trivial
      | succ k => exact ⟨h3.1, ih (ll := ll) k (by simpa using hk) (by simpa using h2) h3.2 (by simp at hc; omega)⟩

set_option maxRecDepth 100000 in
set_option maxHeartbeats 4000000 in
theorem bare_calls (v : Value) (rows : List (List Cell)) (w : World) (hv : RR w v rows) (hn : rows.length * 24 ≤ 140737488355328) (hs : ∀ l ∈ rows, l.length * 32 ≤ 140737488355328) :
    Calls Tryd.prog 49 #[v] w fun e w' => ∃ v', e = .returned v' ∧ RR w' v' (bareF rows) ∧ Below w.heap.size w w' := by
  have HV := Hd.mk hv
  have HS := Hd.mk hs
  obtain ⟨A, c0, rfl, hn1, hn2⟩ := hv.slice
  clear hv hs
  go_enter Tryd.func49, Tryd.ntmps49
  go_wp2_with fail
  go_loopg [3, 8] rows.length (fun gk s i wr => ∃ (k : Nat) (vo : Value), k + gk = rows.length ∧ i = .int .i64 k ∧ vo = s ∧ Hd (OR wr w.heap.size vo ((rows.take k).map trimF)) ∧ Hd (Below w.heap.size w wr))
  case atStart => exact ⟨0, _, by omega, rfl, rfl, ⟨OR.nil _ _⟩, ⟨Below.refl _ _⟩⟩
  case round =>
    obtain ⟨k, vo, hk, rfl, rfl, HO, HB⟩ := hrel
    by_cases hlt : k < rows.length
    · obtain ⟨b, o, c1, A1, c1', hv, k1, k2, hcell, HR⟩ := RR.at_ (HV.out.below HB.out) hlt
      injection hv with hv1 hv2 hv3
      clear hv2
      subst hv1 hv3
      have HSr := Hd.mk (HS.out rows[k] (List.getElem_mem _))
      have HTX := Hd.mk (show (rows.take (k + 1)).map trimF = (rows.take k).map trimF ++ [trimF rows[k]] by rw [List.take_add_one, List.map_append]; simp [hlt])
      have hlen : ((rows.take k).map trimF).length = k := by simp; omega
      have HLEN := Hd.mk hlen
      generalize rows[k] = row at *
      obtain ⟨vs, o1, o2⟩ := HO.out
      rw [hlen] at o1
      have HO1 := Hd.mk o1
      have HO2 := Hd.mk o2
      obtain ⟨Ao, co, rfl⟩ := own_slice o1
      have hz := HB.out.size
      clear o1 o2 hlen
      go_wp2_with fail
      refine (trim_any _ row wr HR.out HSr.out).mono ?_
      rintro e w4 ⟨v4, rfl, ho4, hb4⟩
      have HO4 := Hd.mk ho4
      have HB4 := Hd.mk hb4
      obtain ⟨A4, c4, rfl⟩ := own_slice ho4
      have hz4 := hb4.size
      have HW4 := Hd.mk (below_own HO1.out hb4)
      have HV4 := Hd.mk (HO2.out.imp (fun _ _ h => OC.below h hb4))
      clear ho4 hb4 hcell
      have hb24 : (k + 1) * 24 ≤ 140737488355328 := by omega
      go_wp2_with (at_builtin; refine app_lit rfl (.tmp 12) (.tmp 15) 25 35 _ 1 24 rfl Tryd.underlying25 Tryd.info35 rfl (by decide) (by decide) w.heap.size _ k 1 vs _ rfl rfl rfl ?h1 HW4.out (by omega) hb24 ?_)
      case h1 => exact rfl
      intro v5 w5 hown5 hgr5 hat5
      have HO5 : Hd (OR w5 w.heap.size v5 ((rows.take (k + 1)).map trimF)) := ⟨by
        rw [HTX.out]
        have h1 := HW4.out
        rw [← HLEN.out] at h1
        exact OR.grown h1 HV4.out (vs' := [.slice A4 (trimF row).length c4]) (ll' := [trimF row]) ⟨OC.mono HO4.out hz, trivial⟩ (by rw [HLEN.out]; exact hgr5) hown5 (by rw [HLEN.out]; rfl) rfl⟩
      have HB5 := Hd.mk ((below_next HB.out HB4.out).grown hgr5 (by omega) (fun j hj => (own_lt HW4.out j hj).1))
      obtain ⟨A5, c5, rfl⟩ := own_slice hown5
      clear hown5 hgr5 hat5
      go_wp2_with fail
      go_roundg (gk - 1)
      case measure => omega
      case rel => exact ⟨k + 1, _, by omega, by go_num, rfl, HO5, HB5⟩
    · have hkk : k = rows.length := by omega
      subst hkk
      have HQ := Hd.mk (show OR wr w.heap.size vo (rows.map trimF) by have := HO.out; rwa [List.take_length] at this)
      have hml : (rows.map trimF).length = rows.length := by simp
      have HBR := Hd.mk (show bareF rows = (rows.map trimF).take (bareN (rows.map trimF) (rows.map trimF).length) by rw [hml]; rfl)
      obtain ⟨Ao, co, rfl⟩ := HQ.out.slice
      have HRR := Hd.mk HQ.out.rr
      clear hml HQ HO hn HS HV
      generalize rows.map trimF = t at *
      obtain ⟨wo, rfl⟩ : ∃ x, x = wr := ⟨_, rfl⟩
      obtain ⟨go, hgo⟩ : ∃ n, n = gk := ⟨_, rfl⟩
      subst hgo
      go_wp2_with fail
      go_loopg [3] t.length (fun gk s wr => ∃ (n : Nat), n = gk ∧ s = .slice Ao n co ∧ n ≤ t.length ∧ Hd (bareN t n = bareN t t.length) ∧ wr = wo)
      case atStart => exact ⟨t.length, rfl, rfl, Nat.le_refl _, ⟨rfl⟩, rfl⟩
      case round =>
        obtain ⟨n, rfl, rfl, hnt, HN, rfl⟩ := hrel
        by_cases h0 : 0 < n
        · obtain ⟨b, o, c1, A1, c1', hv, k1, k2, hcell, HR⟩ := RR.at_ HRR.out (k := n - 1) (by omega)
          injection hv with hv1 hv2 hv3
          clear hv2
          subst hv1 hv3
          obtain ⟨k, rfl⟩ : ∃ k, n = k + 1 := ⟨n - 1, by omega⟩
          simp only [Nat.add_sub_cancel] at hcell
          have hk2 : k < t.length := by omega
          have hk1 : IntKind.i64.wrap (k : Int) = k := IntWalk.i64_in _ (by unfold maxLen at k2; omega)
          have HG := Hd.mk (show t.getD k [] = t[k]'(by omega) by simp [List.getD, hk2])
          by_cases hz : (t[k]'(by omega)).length = 0
          · have HM := Hd.mk (show bareN t k = bareN t t.length by rw [← HN.out, bareN, if_pos (by rw [HG.out]; exact hz)])
            have hzb : (((t[k]'(by omega)).length : Int) == 0) = true := by simp [hz]
            clear hz
            go_wp2_with fail
            go_roundg k
            case measure => omega
            case rel => exact ⟨k, rfl, rfl, by omega, HM, rfl⟩
          · have HM := Hd.mk (show bareN t t.length = k + 1 by rw [← HN.out, bareN, if_neg (by rw [HG.out]; exact hz)])
            have hzb : (((t[k]'(by omega)).length : Int) == 0) = false := by simpa using hz
            clear hz
            go_wp2_with fail
            go_ret
            exact ⟨_, rfl, by rw [HBR.out, HM.out]; exact RR.take HRR.out _ (by omega), HB.out⟩
        · obtain rfl : n = 0 := by omega
          have HM := Hd.mk (show bareN t t.length = 0 by rw [← HN.out, bareN])
          go_wp2_with fail
          go_ret
          exact ⟨_, rfl, by rw [HBR.out, HM.out]; exact RR.take HRR.out _ (by omega), HB.out⟩
end Go.Proofs.YthpfhlhoekgpjaaDoor
