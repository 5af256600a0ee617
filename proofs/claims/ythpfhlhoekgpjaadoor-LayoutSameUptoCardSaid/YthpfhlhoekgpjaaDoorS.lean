/- strings.TrimRight at a blank. -/
import Derived.Lib.TrimByte
import Derived.Laws.Strings3
import Derived.Test.YthpfhlhoekgpjaaDoorQ
set_option linter.unusedVariables false
set_option linter.unusedSimpArgs false
namespace Go.Proofs.YthpfhlhoekgpjaaDoor
open Go.RowKit

/-- A text without the bytes c at its end. -/
def trimB (s : ByteArray) (c : UInt8) : ByteArray := ⟨(Lib.trimRightB s.data.toList c).toArray⟩
theorem data_cut (s : ByteArray) (n : Nat) (h : s.size = n + 1) : s.data.toList = (s.extract 0 n).data.toList ++ [s[n]'(by omega)] := by
  obtain ⟨⟨l⟩⟩ := s
  have hl : l.length = n + 1 := by simpa [ByteArray.size] using h
  have hg : (⟨⟨l⟩⟩ : ByteArray)[n]'(by simp [ByteArray.size]; omega) = l[n] := rfl
  rw [hg]
  have he : ((⟨⟨l⟩⟩ : ByteArray).extract 0 n).data.toList = l.take n := by simp
  rw [he]
  show l = l.take n ++ [l[n]]
  conv => lhs; rw [← List.take_append_drop n l]
  congr 1
  rw [List.drop_eq_getElem_cons (by omega), List.drop_of_length_le (by omega)]
theorem trimB_same (s : ByteArray) (c : UInt8) (n : Nat) (h : s.size = n + 1) (hc : s[n]'(by omega) = c) : trimB s c = trimB (s.extract 0 n) c := by
  unfold trimB Lib.trimRightB
  rw [data_cut s n h, hc]
  simp
theorem trimB_end (s : ByteArray) (c : UInt8) (n : Nat) (h : s.size = n + 1) (hc : s[n]'(by omega) ≠ c) : trimB s c = s := by
  unfold trimB Lib.trimRightB
  have hd := data_cut s n h
  have : (s.data.toList.reverse.dropWhile (· == c)) = s.data.toList.reverse := by
    rw [hd]
    simp [hc]
  rw [this]
  simp
theorem trimB_nil (s : ByteArray) (c : UInt8) (h : s.size = 0) : trimB s c = s := by
  obtain ⟨⟨l⟩⟩ := s
  have hl : l = [] := by simpa [ByteArray.size] using h
  subst hl
  rfl

set_option maxRecDepth 100000 in
set_option maxHeartbeats 2000000 in
theorem trimByte_calls (s : ByteArray) (c : UInt8) (w : World) (hs : s.size ≤ 9223372036854775807) :
    Calls Tryd.prog 66 #[.string s, .int .u8 c.toNat] w fun e w' => e = .returned (.string (trimB s c)) ∧ w' = w := by
  go_enter Tryd.func66, Tryd.ntmps66
  go_wp2_with fail
  go_loopg [0] s.size (fun gk v wr => ∃ t : ByteArray, t.size = gk ∧ gk ≤ 9223372036854775807 ∧ v = .string t ∧ Hd (trimB t c = trimB s c) ∧ wr = w)
  case atStart => exact ⟨s, rfl, hs, rfl, ⟨rfl⟩, rfl⟩
  case round =>
    obtain ⟨t, hz, hle, rfl, HT, rfl⟩ := hrel
    cases gk with
    | zero =>
      have HE := Hd.mk (trimB_nil t c hz)
      go_wp2_with fail
      go_ret
      exact ⟨by rw [← HT.out, HE.out]; rfl, rfl⟩
    | succ n =>
      have hn : n < t.size := by omega
      have hw1 : IntKind.i64.wrap ((n : Int) + 1 - 1) = n := by rw [Int.add_sub_cancel]; unfold IntKind.wrap; simp [IntKind.signed, IntKind.bits] <;> omega
      by_cases hc : t[n]'hn = c
      · have HE := Hd.mk (trimB_same t c n hz hc)
        have hq : (((t[n]'hn).toNat : Int) == (c.toNat : Int)) = true := by rw [hc]; simp
        have hx : (t.extract 0 n).size = n := by simp; omega
        clear hc
        go_wp2_with fail
        go_roundg n
        case measure => omega
        case rel => exact ⟨t.extract 0 n, hx, by omega, rfl, ⟨by rw [← HT.out, HE.out]⟩, rfl⟩
      · have HE := Hd.mk (trimB_end t c n hz hc)
        have hq : (((t[n]'hn).toNat : Int) == (c.toNat : Int)) = false := by
          simp only [beq_eq_false_iff_ne, ne_eq]
          intro e
          exact hc (UInt8.toNat_inj.1 (by exact_mod_cast e))
        clear hc
        go_wp2_with fail
        go_ret
        exact ⟨by rw [← HT.out, HE.out]; rfl, rfl⟩
set_option maxRecDepth 100000 in
set_option maxHeartbeats 2000000 in
theorem trimRight_calls (s : ByteArray) (w : World) (hs : s.size ≤ 9223372036854775807) :
    Calls Tryd.prog 51 #[.string s, .string ⟨#[32]⟩] w fun e w' => e = .returned (.string (trimB s 32)) ∧ w' = w := by
  have HS := Hd.mk (trimByte_calls s 32 w hs)
  cases he : s.toList.isEmpty with
  | true =>
    have hz : s.size = 0 := by
      have h1 : s.toList = [] := by simpa using he
      rw [ByteArray.toList_eq] at h1
      obtain ⟨⟨l⟩⟩ := s
      have hl : l = [] := h1
      subst hl
      rfl
    have HE := Hd.mk (trimB_nil s 32 hz)
    clear hz
    go_enter Tryd.func51, Tryd.ntmps51
    go_wp2_with fail
    go_ret
    exact ⟨by rw [HE.out]; rfl, rfl⟩
  | false =>
    go_enter Tryd.func51, Tryd.ntmps51
    go_wp2_with (go_at_call 66; refine HS.out.mono ?_; rintro e w1 ⟨rfl, rfl⟩)
    go_ret
    exact ⟨rfl, rfl⟩
end Go.Proofs.YthpfhlhoekgpjaaDoor
