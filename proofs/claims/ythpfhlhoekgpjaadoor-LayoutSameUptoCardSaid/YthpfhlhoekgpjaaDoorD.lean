/- ucell.join. -/
import Derived.Test.YthpfhlhoekgpjaaDoorC
set_option linter.unusedVariables false
set_option linter.unusedSimpArgs false
namespace Go.Proofs.YthpfhlhoekgpjaaDoor
open Go.RowKit

/-! ### The last cell that has a text -/
def lastT : List Cell → Option Nat
  | [] => none
  | c :: r => match lastT r with
    | some i => some (i + 1)
    | none => if c.t.size = 0 then none else some 0
def joinF (l : List Cell) (s : ByteArray) : List Cell :=
  match lastT l with
  | some i => match l[i]? with
    | some c => if c.t.size ≤ 32 then l.set i { c with t := c.t ++ s } else l
    | none => l
  | none => l ++ [oneC (⟨#[32]⟩ ++ s)]
theorem lastT_none {l : List Cell} (h : ∀ j (hj : j < l.length), l[j].t.size = 0) : lastT l = none := by
  induction l with
  | nil => rfl
  | cons c r ih =>
    have h0 := h 0 (by simp)
    simp only [List.getElem_cons_zero] at h0
    rw [lastT, ih (fun j hj => by have := h (j + 1) (by simpa using hj); simpa using this)]
    simp [h0]
theorem lastT_some {l : List Cell} {i : Nat} (hi : i < l.length) (hn : l[i].t.size ≠ 0) (h : ∀ j (hj : j < l.length), i < j → l[j].t.size = 0) : lastT l = some i := by
  induction l generalizing i with
  | nil => simp at hi
  | cons c r ih =>
    rw [lastT]
    cases i with
    | zero =>
      rw [lastT_none (fun j hj => by have := h (j + 1) (by simpa using hj) (by omega); simpa using this)]
      simp only [List.getElem_cons_zero] at hn
      simp [hn]
    | succ i =>
      have hi' : i < r.length := by simpa using hi
      rw [ih hi' (by simpa using hn) (fun j hj hij => by have := h (j + 1) (by simpa using hj) (by omega); simpa using this)]
theorem lastT_spec (l : List Cell) : (lastT l = none ∧ ∀ j (hj : j < l.length), l[j].t.size = 0) ∨ ∃ i, ∃ hi : i < l.length, lastT l = some i ∧ l[i].t.size ≠ 0 ∧ ∀ j (hj : j < l.length), i < j → l[j].t.size = 0 := by
  induction l with
  | nil => exact .inl ⟨rfl, fun j hj => by simp at hj⟩
  | cons c r ih =>
    rcases ih with ⟨e, h⟩ | ⟨i, hi, e, hn, h⟩
    · by_cases hc : c.t.size = 0
      · refine .inl ⟨by rw [lastT, e]; simp [hc], fun j hj => ?_⟩
        cases j with
        | zero => simpa using hc
        | succ j => simpa using h j (by simpa using hj)
      · refine .inr ⟨0, by simp, by rw [lastT, e]; simp [hc], by simpa using hc, fun j hj h0 => ?_⟩
        cases j with
        | zero => omega
        | succ j => simpa using h j (by simpa using hj)
    · refine .inr ⟨i + 1, by simpa using hi, by rw [lastT, e], by simpa using hn, fun j hj h0 => ?_⟩
      cases j with
      | zero => omega
      | succ j => simpa using h j (by simpa using hj) (by omega)
theorem empty_true {t : ByteArray} (h : t.size = 0) : t.toList.isEmpty = true := by
  rw [ByteArray.toList_eq]
  have : t.data.toList.length = 0 := by rw [Array.length_toList]; exact h
  simp [List.eq_nil_of_length_eq_zero this]
theorem empty_false {t : ByteArray} (h : t.size ≠ 0) : t.toList.isEmpty = false := by
  rw [ByteArray.toList_eq]
  have : t.data.toList.length ≠ 0 := by rw [Array.length_toList]; exact h
  cases hh : t.data.toList with
  | nil => rw [hh] at this; simp at this
  | cons x r => rfl
theorem encode_size (r : Int) : (Utf8.encode r).size ≤ 4 := by
  unfold Utf8.encode
  generalize (if Utf8.valid r then r.toNat else 65533) = n
  dsimp only
  repeat' split
  all_goals (first | (show 1 ≤ 4; omega) | (show 2 ≤ 4; omega) | (show 3 ≤ 4; omega) | (show 4 ≤ 4; omega))
theorem own_form {w : World} {base e size n : Nat} {v : Value} {xs : List Value} (h : w.ownsRow base e size v n xs) (hn : 0 < n) : ∃ g cap, v = .slice (some ⟨g, 0, none⟩) n cap ∧ base ≤ g ∧ g < w.heap.size ∧ n ≤ cap ∧ cap ≤ maxLen := by
  rcases h.2 with ⟨_, h1⟩ | ⟨g, cap, cur, rfl, hb, hgg, h1, h2, _⟩
  · omega
  · exact ⟨g, cap, rfl, hb, (Array.getElem?_eq_some_iff.1 hgg).1, h1, h2⟩
theorem encs_set (l : List Cell) (k : Nat) (hk : k < l.length) (t : ByteArray) : encs (l.set k { l[k] with t := t }) = (encs l).set (k * 3) (.string t) := by
  induction l generalizing k with
  | nil => simp at hk
  | cons c l ih =>
    cases k with
    | zero => simp [encs_cons, Cell.enc]
    | succ k =>
      have hk' : k < l.length := by simpa using hk
      have e : (k + 1) * 3 = k * 3 + 1 + 1 + 1 := by omega
      rw [List.set_cons_succ, encs_cons, encs_cons, e]
      simp only [Cell.enc, List.cons_append, List.nil_append, List.set_cons_succ, List.getElem_cons_succ]
      rw [← ih k hk']

set_option maxRecDepth 100000 in
set_option maxHeartbeats 1000000 in
theorem join_calls (B : Nat) (v : Value) (l : List Cell) (r : Int) (w : World) (hown : OC w B v l) (hB : B ≤ w.heap.size) (hsz : (l.length + 1) * 32 ≤ 140737488355328) :
    Calls Tryd.prog 40 #[v, .int .i32 r] w fun e w' => ∃ v', e = .returned v' ∧ OC w' B v' (joinF l (Utf8.encode r)) ∧ (v'.ownBlock = v.ownBlock ∨ ∃ g, v'.ownBlock = some g ∧ w.heap.size ≤ g) ∧ Touch (fun k => some k = v.ownBlock) w w' := by
  obtain ⟨A, c, rfl⟩ := own_slice hown
  have HO := Hd.mk hown
  clear hown
  have he := encode_size r
  go_enter Tryd.func40, Tryd.ntmps40
  go_wp2
  go_loop [5] (fun i => ∃ n : Int, -1 ≤ n ∧ n < l.length ∧ i = .int .i64 n ∧ Hd (∀ j (hj : j < l.length), n < j → l[j].t.size = 0)) (fun i => (intOf i + 1).toNat)
  case atStart => exact ⟨_, by omega, by omega, rfl, ⟨fun j hj h => by omega⟩⟩
  case round =>
    obtain ⟨n, hn1, hn2, rfl, HE⟩ := hrel
    by_cases hlt : 0 ≤ n
    · obtain ⟨k, rfl⟩ := Int.eq_ofNat_of_zero_le hlt
      have hk : k < l.length := by omega
      obtain ⟨g, cap, hv, hBg, hg, hcap, hm⟩ := own_form HO.out (by omega)
      injection hv with hv1 hv2 hv3
      subst hv1 hv3
      obtain ⟨b, o, c', hv, h1, h2, h3, hc⟩ := RC.at_ (OC.rc HO.out) hk
      injection hv with hv1 hv2 hv3
      injection hv1 with hv1
      injection hv1 with hv1 hv4
      subst hv1 hv4 hv3
      obtain ⟨g0, g1, g2⟩ := hc k hk
      have f0 := World.ownsRow.frozenAt HO.out (k * 3)
      simp only [Nat.zero_add] at g0 g1 g2
      have HC := Hd.mk hc
      clear hc
      by_cases hz : l[k].t.size = 0
      · have hzb := empty_true hz
        go_wp2_with fail
        go_round
        case rel => exact ⟨(k : Int) - 1, by omega, by omega, rfl, ⟨fun j hj h => by
          rcases Nat.lt_or_ge k j with h' | h'
          · exact HE.out j hj (by omega)
          · obtain rfl : j = k := by omega
            exact hz⟩⟩
        case measure => simp [intOf]
      · have hzb := empty_false hz
        have HJ := lastT_some hk hz (fun j hj h => HE.out j hj (by omega))
        have HL := Hd.mk HJ
        clear HJ
        by_cases h32 : l[k].t.size ≤ 32
        · have HF : joinF l (Utf8.encode r) = l.set k { l[k] with t := l[k].t ++ Utf8.encode r } := by simp [joinF, HL.out, hk, h32]
          have HFh := Hd.mk HF
          clear HF
          go_wp2_with fail
          go_ret
          refine ⟨_, rfl, ?_, .inl rfl, Touch.setCell (Touch.refl _ _) _ _ rfl⟩
          rw [HFh.out]
          have hs := (World.ownsRow.stored HO.out (k * 3) (.string (l[k].t ++ Utf8.encode r))).1
          exact OC.mk hs (by simp) (encs_set l k hk _).symm
        · have HF : joinF l (Utf8.encode r) = l := by simp [joinF, HL.out, hk, h32]
          have HFh := Hd.mk HF
          clear HF
          go_wp2_with fail
          go_ret
          refine ⟨_, rfl, ?_, .inl rfl, Touch.refl _ _⟩
          rw [HFh.out]
          exact HO.out
    · have HF : joinF l (Utf8.encode r) = l ++ [oneC (⟨#[32]⟩ ++ Utf8.encode r)] := by
        simp [joinF, lastT_none (fun j hj => HE.out j hj (by omega))]
      have HFh := Hd.mk HF
      clear HF
      have hl1 : (l.length + 1) * 32 ≤ 140737488355328 := hsz
      go_wp2_with (at_builtin; refine app_lit rfl (.tmp 37) (.tmp 42) 35 37 _ 3 32 rfl Tryd.underlying35 Tryd.info37 rfl (by decide) (by decide) B _ _ 1 _ _ rfl rfl rfl ?h1 HO.out hB hl1 ?_)
      case h1 => exact ⟨rfl, rfl, rfl⟩
      intro v1 w1 hown1 hgr1 hat1
      have HT := Hd.mk (And.intro hown1 (And.intro hgr1 hat1))
      clear hown1 hgr1 hat1
      go_wp2_with fail
      go_ret
      obtain ⟨x1, x2, x3⟩ := HT.out
      refine ⟨_, rfl, ?_, x3, Touch.of_grown x2⟩
      rw [HFh.out]
      exact OC.mk x1 (by simp) (by simp [encs_append, encs_cons, Cell.enc, oneC])
end Go.Proofs.YthpfhlhoekgpjaaDoor
