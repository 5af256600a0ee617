/- layout's and slices' leaves: Seen, Check, Index, Clone, joins, blank. -/
import Derived.Test.YthpfhlhoekgpjaaDoorE
set_option linter.unusedVariables false
set_option linter.unusedSimpArgs false
namespace Go.Proofs.YthpfhlhoekgpjaaDoor
open Go.RowKit

/-! ### Runes that are read; one's own -/
theorem nums_len (l : List Int) : (nums l).length = l.length := by simp [nums]
theorem RI.at_ {w : World} {v : Value} {l : List Int} (h : RI w v l) {k : Nat} (hk : k < l.length) :
    ∃ b o c, v = .slice (some ⟨b, o, none⟩) l.length c ∧ l.length ≤ c ∧ c ≤ maxLen ∧ b < w.heap.size ∧ ∀ j (hj : j < l.length), w.cell? ⟨b, o + j, none⟩ = some (.int .i32 l[j]) := by
  have hne : nums l ≠ [] := fun e => by have := nums_len l; rw [e] at this; simp at this; omega
  obtain ⟨b, o, c, rfl, h1, h2, h3, hc⟩ := Rd.at_ h hne
  exact ⟨b, o, c, rfl, h1, h2, h3, fun j hj => hc j _ (by simp [nums, hj])⟩
def OI (w : World) (B : Nat) (v : Value) (l : List Int) : Prop := w.ownsRow B 21 1 v l.length (nums l)
theorem OI.ri {w : World} {B : Nat} {v : Value} {l : List Int} (h : OI w B v l) : RI w v l := own_rd h
theorem OI.mk {w : World} {B : Nat} {v : Value} {l : List Int} {n : Nat} {xs : List Value} (h : w.ownsRow B 21 1 v n xs) (hn : n = l.length) (hx : xs = nums l) : OI w B v l := by subst hn hx; exact h
theorem nums_one (l : List Int) : ∀ u ∈ nums l, u.oneCell' = true := by
  intro u hu
  simp only [nums, List.mem_map] at hu
  obtain ⟨c, _, rfl⟩ := hu
  rfl

/-! ### Seen -/
def seenStep (s : List Int × Bool) (r : Int) : List Int × Bool :=
  if s.2 then (s.1, decide (r ≠ 2)) else if r = 1 then (s.1, true) else if r = 2 then s else (s.1 ++ [r], false)
def seenF (l : List Int) : List Int := (l.foldl seenStep ([], false)).1
theorem seen_succ (l : List Int) (k : Nat) (hk : k < l.length) : (l.take (k + 1)).foldl seenStep ([], false) = seenStep ((l.take k).foldl seenStep ([], false)) l[k] := by
  rw [List.take_succ_eq_append_getElem hk, List.foldl_append]; rfl
theorem seen_len (l : List Int) (s : List Int × Bool) : (l.foldl seenStep s).1.length ≤ s.1.length + l.length := by
  induction l generalizing s with
  | nil => simp
  | cons r l ih =>
    have := ih (seenStep s r)
    have h2 : (seenStep s r).1.length ≤ s.1.length + 1 := by unfold seenStep; repeat' split
                                                             all_goals (simp <;> omega)
    simp only [List.foldl_cons, List.length_cons]
    omega

set_option maxRecDepth 100000 in
set_option maxHeartbeats 1000000 in
theorem seen_calls (v : Value) (l : List Int) (w : World) (hv : RI w v l) (hn : l.length ≤ 1000000) :
    Calls Tryd.prog 31 #[v] w fun e w' => ∃ v', e = .returned v' ∧ OI w' w.heap.size v' (seenF l) ∧ Below w.heap.size w w' := by
  obtain ⟨A, c, rfl, h1, h2, h3⟩ := hv
  go_enter Tryd.func31, Tryd.ntmps31
  go_wp2_with fail
  go_loopg [3, 4, 9] l.length (fun gk vr hd i wr => ∃ (k : Nat) (o : List Int) (hb : Bool), k + gk = l.length ∧ i = .int .i64 k ∧ hd = .bool hb ∧ o.length ≤ k ∧ Hd ((l.take k).foldl seenStep ([], false) = (o, hb)) ∧ Hd (OI wr w.heap.size vr o ∧ Below w.heap.size w wr))
  case atStart => exact ⟨0, [], false, by omega, rfl, rfl, by simp, ⟨rfl⟩, ⟨World.ownsRow_nil _ _ _ _, Below.refl _ _⟩⟩
  case round =>

    obtain ⟨k, o, hb, hk, rfl, rfl, hol, HS, HR⟩ := hrel
    by_cases hlt : k < l.length
    · obtain ⟨b, q, rfl, hc⟩ : ∃ b o, A = some ⟨b, o, none⟩ ∧ ∀ j u, (nums l)[j]? = some u → w.cell? ⟨b, o + j, none⟩ = some u := by
        rcases h3 with h3 | h3
        · simp only [nums, List.map_eq_nil_iff] at h3; subst h3; simp at hlt
        · exact h3
      have g0 : wr.cell? ⟨b, q + k, none⟩ = some (.int .i32 l[k]) := below_cell HR.out.2 (hc k _ (by simp [nums, hlt]))
      have hstep := seen_succ l k hlt
      rw [HS.out] at hstep
      have HT := Hd.mk hstep
      have HC := Hd.mk hc
      have HK := Hd.mk hk
      have hgk : 0 < gk := by omega
      clear hc h3 hstep hk
      generalize l[k] = r at *
      have hBr := HR.out.2.size
      cases hb with
      | true =>
        by_cases c2 : r = 2
        · have HQ := Hd.mk (show seenStep (o, true) r = (o, false) by simp [seenStep, c2])
          have c2b : (r != 2) = false := by simp [c2]
          clear c2
          go_wp2_with fail
          go_roundg (gk - 1)
          case measure => omega
          case rel => exact ⟨k + 1, o, false, by have := HK.out; omega, by go_num, rfl, by omega, ⟨by rw [HT.out, HQ.out]⟩, HR⟩
        · have HQ := Hd.mk (show seenStep (o, true) r = (o, true) by simp [seenStep, c2])
          have c2b : (r != 2) = true := by simpa using c2
          clear c2
          go_wp2_with fail
          go_roundg (gk - 1)
          case measure => omega
          case rel => exact ⟨k + 1, o, true, by have := HK.out; omega, by go_num, rfl, by omega, ⟨by rw [HT.out, HQ.out]⟩, HR⟩
      | false =>
        by_cases c1 : r = 1
        · have HQ := Hd.mk (show seenStep (o, false) r = (o, true) by simp [seenStep, c1])
          have c1b : (r == 1) = true := by simpa using c1
          clear c1
          go_wp2_with fail
          go_roundg (gk - 1)
          case measure => omega
          case rel => exact ⟨k + 1, o, true, by have := HK.out; omega, by go_num, rfl, by omega, ⟨by rw [HT.out, HQ.out]⟩, HR⟩
        · have c1b : (r == 1) = false := by simpa using c1
          by_cases c2 : r = 2
          · have HQ := Hd.mk (show seenStep (o, false) r = (o, false) by simp [seenStep, c1, c2])
            have c2b : (r != 2) = false := by simp [c2]
            clear c1 c2
            go_wp2_with fail
            go_roundg (gk - 1)
            case measure => omega
            case rel => exact ⟨k + 1, o, false, by have := HK.out; omega, by go_num, rfl, by omega, ⟨by rw [HT.out, HQ.out]⟩, HR⟩
          · have HQ := Hd.mk (show seenStep (o, false) r = (o ++ [r], false) by simp [seenStep, c1, c2])
            have c2b : (r != 2) = true := by simpa using c2
            clear c1 c2
            have hl2 : (o.length + 1) * 4 ≤ 140737488355328 := by omega
            go_wp2_with (at_builtin; refine app_lit rfl (.tmp 23) (.tmp 25) 22 21 _ 1 4 rfl Tryd.underlying22 Tryd.info21 rfl (by decide) (by decide) w.heap.size _ _ 1 _ _ rfl rfl rfl ?h1 HR.out.1 hBr hl2 ?_)
            case h1 => ((repeat' apply And.intro) <;> rfl)
            intro v1 w1 hown1 hgr1 hat1
            have hb1 : Below w.heap.size w w1 := HR.out.2.grown hgr1 hBr (fun j hj => (own_lt HR.out.1 j hj).1)
            have HX := Hd.mk (And.intro (OI.mk (l := o ++ [r]) hown1 (by simp) (by simp [nums])) hb1)
            clear hown1 hgr1 hat1 hb1
            go_wp2_with fail
            go_roundg (gk - 1)
            case measure => omega
            case rel => exact ⟨k + 1, o ++ [r], false, by have := HK.out; omega, by go_num, rfl, by simp; omega, ⟨by rw [HT.out, HQ.out]⟩, HX⟩
    · have HS2 := HS.out
      rw [List.take_of_length_le (by omega)] at HS2
      have HS3 := Hd.mk HS2
      clear HS2
      go_wp2_with fail
      go_ret
      refine ⟨_, rfl, ?_, HR.out.2⟩
      rw [show seenF l = o by unfold seenF; rw [HS3.out]]
      exact HR.out.1

/-! ### slices.Index of runes -/
def idxF (l : List Int) (r : Int) : Int := match l.findIdx? (· == r) with | some k => k | none => -1
theorem idxF_some {l : List Int} {r : Int} {k : Nat} (hk : k < l.length) (h : l[k] = r) (hb : ∀ j (hj : j < k), l[j]'(by omega) ≠ r) : idxF l r = k := by
  unfold idxF
  rw [List.findIdx?_eq_some_iff_getElem.2 ⟨hk, by simpa using h, fun j hj => by simpa using hb j hj⟩]
theorem idxF_none {l : List Int} {r : Int} (hb : ∀ j (hj : j < l.length), l[j] ≠ r) : idxF l r = -1 := by
  unfold idxF
  rw [List.findIdx?_eq_none_iff.2 (fun x hx => by
    obtain ⟨j, hj, rfl⟩ := List.getElem_of_mem hx
    simpa using hb j hj)]

set_option maxRecDepth 100000 in
theorem index_calls (v : Value) (l : List Int) (r : Int) (w : World) (hv : RI w v l) :
    Calls Tryd.prog 53 #[v, .int .i32 r] w fun e w' => e = .returned (.int .i64 (idxF l r)) ∧ w = w' := by
  obtain ⟨A, c, rfl, h1, h2, h3⟩ := hv
  have hm : l.length ≤ 9223372036854775807 := by unfold maxLen at h2; omega
  go_enter Tryd.func53, Tryd.ntmps53
  go_wp2_with fail
  go_loop [8] (fun i => ∃ k : Nat, k ≤ l.length ∧ i = .int .i64 k ∧ Hd (∀ j (hj : j < k) (hl : j < l.length), l[j] ≠ r)) (fun i => l.length - (intOf i).toNat)
  case atStart => exact ⟨0, by omega, rfl, ⟨fun j hj => by omega⟩⟩
  case round =>
    obtain ⟨k, hk, rfl, HE⟩ := hrel
    by_cases hlt : k < l.length
    · obtain ⟨b, q, rfl, hc⟩ : ∃ b o, A = some ⟨b, o, none⟩ ∧ ∀ j u, (nums l)[j]? = some u → w.cell? ⟨b, o + j, none⟩ = some u := by
        rcases h3 with h3 | h3
        · simp only [nums, List.map_eq_nil_iff] at h3; subst h3; simp at hlt
        · exact h3
      have g0 : w.cell? ⟨b, q + k, none⟩ = some (.int .i32 l[k]) := hc k _ (by simp [nums, hlt])
      have HC := Hd.mk hc
      clear hc h3
      by_cases e : l[k] = r
      · have HF := Hd.mk (idxF_some hlt e (fun j hj => HE.out j hj (by omega)))
        have eb : (r == l[k]) = true := by simp [e]
        clear e
        go_wp2_with fail
        go_ret
        exact ⟨retI HF.out.symm, rfl⟩
      · have eb : (r == l[k]) = false := by simp; exact fun h => e h.symm
        have HE2 := Hd.mk e
        clear e
        go_wp2_with fail
        go_round
        case rel => exact ⟨k + 1, by omega, by go_num, ⟨fun j hj hl => by
          rcases Nat.lt_or_ge j k with h | h
          · exact HE.out j h hl
          · obtain rfl : j = k := by omega
            exact HE2.out⟩⟩
        case measure => simp [intOf]; omega
    · have HF := Hd.mk (idxF_none (l := l) (r := r) (fun j hj => HE.out j (by omega) hj))
      go_wp2_with fail
      go_ret
      exact ⟨retI HF.out.symm, rfl⟩
end Go.Proofs.YthpfhlhoekgpjaaDoor
