/- No program in sight: the bytes of one rune. -/
import Derived.Lib.DecodeN
import Derived.Shelf.Unicode.DecodeSlow
set_option linter.unusedVariables false
set_option linter.unusedSimpArgs false
namespace Go.Proofs.YtnolkpknoljacaaDoor
open Go.Lib

def bAt (s : ByteArray) (j : Nat) : Nat := (s.get! j).toNat
structure REnc (s : ByteArray) (r : Nat) : Prop where
  s1 : 1 ≤ s.size
  s4 : s.size ≤ 4
  dec : decodeGo s = (r, s.size)
  lead : ∀ k, 1 ≤ k → (firstT (bAt s 0) % 8 ≤ k ↔ s.size ≤ k)
  lead5 : 1 < s.size → firstT (bAt s 0) / 16 < 5
  acc : 1 < s.size → accLo (firstT (bAt s 0) / 16) ≤ bAt s 1 ∧ bAt s 1 ≤ accHi (firstT (bAt s 0) / 16)
  c2 : 2 < s.size → 128 ≤ bAt s 2 ∧ bAt s 2 ≤ 191
  asc : s.size = 1 → bAt s 0 = r ∧ r < 128
  big : 1 < s.size → 128 ≤ bAt s 0
  rest : ∀ j, 0 < j → j < s.size → 128 ≤ bAt s j

theorem lt256 (s : ByteArray) (j : Nat) : bAt s j < 256 := UInt8.toNat_lt _
theorem get1 (a : UInt8) : bAt ⟨#[a]⟩ 0 = a.toNat := rfl
set_option maxHeartbeats 4000000 in
theorem renc (r : Nat) (h : r < 55296 ∨ 57344 ≤ r ∧ r ≤ 1114111) : REnc (Utf8.encode r) r := by
  have hv : Utf8.valid (r : Int) = true := by simp [Utf8.valid]; omega
  unfold Utf8.encode
  simp only [hv, ↓reduceIte, Int.toNat_natCast]
  by_cases h1 : r < 128
  · rw [if_pos h1]
    have e0 : bAt ⟨#[UInt8.ofNat r]⟩ 0 = r := by show (UInt8.ofNat r).toNat = r; simp; omega
    have es : (⟨#[UInt8.ofNat r]⟩ : ByteArray).size = 1 := rfl
    have ef : firstT r = 240 := by unfold firstT; rw [if_pos h1]
    refine ⟨by rw [es]; decide, by rw [es]; decide, ?_, ?_, by rw [es]; omega, by rw [es]; omega, by rw [es]; omega, fun _ => ⟨e0, h1⟩, by rw [es]; omega, by rw [es]; omega⟩
    · unfold decodeGo
      rw [es, if_neg (by decide), decode_at, es]
      change decodeN 1 (bAt ⟨#[UInt8.ofNat r]⟩ 0) _ _ _ = _
      rw [e0]; unfold decodeN; rw [if_pos h1]
    · intro k hk; rw [e0, ef, es] <;> omega
  · rw [if_neg h1]
    by_cases h2 : r < 2048
    · rw [if_pos h2]
      generalize hs : (⟨#[UInt8.ofNat (192 + r / 64), UInt8.ofNat (128 + r % 64)]⟩ : ByteArray) = s
      have e0 : bAt s 0 = 192 + r / 64 := by subst hs; show (UInt8.ofNat _).toNat = _; simp; omega
      have e1 : bAt s 1 = 128 + r % 64 := by subst hs; show (UInt8.ofNat _).toNat = _; simp; omega
      have es : s.size = 2 := by subst hs; rfl
      have ef : firstT (192 + r / 64) = 2 := by unfold firstT; repeat' split
                                                all_goals omega
      refine ⟨by omega, by omega, ?_, ?_, ?_, ?_, by omega, by omega, by omega, ?_⟩
      · unfold decodeGo
        rw [es, if_neg (by decide), decode_at, es]
        change decodeN 2 (bAt s 0) (bAt s 1) (bAt s 2) (bAt s 3) = _
        rw [e0, e1]; unfold decodeN
        rw [if_neg (by omega), if_pos (by omega), if_pos (by omega)]
        rw [show (192 + r / 64) % 32 * 64 + (128 + r % 64) % 64 = r by omega]
      · intro k hk; rw [e0, ef, es] <;> omega
      · intro _; rw [e0, ef]; omega
      · intro _; rw [e0, ef, e1]; simp [accLo, accHi] <;> omega
      · intro j h3 h4
        obtain rfl : j = 1 := by omega
        omega
    · rw [if_neg h2]
      by_cases h3 : r < 65536
      · rw [if_pos h3]
        generalize hs : (⟨#[UInt8.ofNat (224 + r / 4096), UInt8.ofNat (128 + r / 64 % 64), UInt8.ofNat (128 + r % 64)]⟩ : ByteArray) = s
        have e0 : bAt s 0 = 224 + r / 4096 := by subst hs; show (UInt8.ofNat _).toNat = _; simp; omega
        have e1 : bAt s 1 = 128 + r / 64 % 64 := by subst hs; show (UInt8.ofNat _).toNat = _; simp; omega
        have e2 : bAt s 2 = 128 + r % 64 := by subst hs; show (UInt8.ofNat _).toNat = _; simp; omega
        have es : s.size = 3 := by subst hs; rfl
        have ef : (firstT (224 + r / 4096) = 19 ∧ r < 4096) ∨ (firstT (224 + r / 4096) = 3) ∨ (firstT (224 + r / 4096) = 35 ∧ r / 4096 = 13) := by
          unfold firstT
          repeat' split
          all_goals omega
        refine ⟨by omega, by omega, ?_, ?_, ?_, ?_, ?_, by omega, by omega, ?_⟩
        · unfold decodeGo
          rw [es, if_neg (by decide), decode_at, es]
          change decodeN 3 (bAt s 0) (bAt s 1) (bAt s 2) (bAt s 3) = _
          rw [e0, e1, e2]; unfold decodeN
          have hc : (224 + r / 4096) % 16 * 4096 + (128 + r / 64 % 64) % 64 * 64 + (128 + r % 64) % 64 = r := by omega
          rw [if_neg (by omega), if_neg (by omega), if_pos (by omega), hc, if_pos (by omega)]
        · intro k hk; rw [e0, es]; rcases ef with ⟨ef, _⟩ | ef | ⟨ef, _⟩ <;> (rw [ef] <;> omega)
        · intro _; rw [e0]; rcases ef with ⟨ef, _⟩ | ef | ⟨ef, _⟩ <;> (rw [ef] <;> omega)
        · intro _; rw [e0, e1]; rcases ef with ⟨ef, _⟩ | ef | ⟨ef, _⟩ <;> (rw [ef]; simp [accLo, accHi] <;> omega)
        · intro _; omega
        · intro j h3 h4
          have : j = 1 ∨ j = 2 := by omega
          rcases this with rfl | rfl <;> omega
      · rw [if_neg h3]
        generalize hs : (⟨#[UInt8.ofNat (240 + r / 262144), UInt8.ofNat (128 + r / 4096 % 64), UInt8.ofNat (128 + r / 64 % 64), UInt8.ofNat (128 + r % 64)]⟩ : ByteArray) = s
        have e0 : bAt s 0 = 240 + r / 262144 := by subst hs; show (UInt8.ofNat _).toNat = _; simp; omega
        have e1 : bAt s 1 = 128 + r / 4096 % 64 := by subst hs; show (UInt8.ofNat _).toNat = _; simp; omega
        have e2 : bAt s 2 = 128 + r / 64 % 64 := by subst hs; show (UInt8.ofNat _).toNat = _; simp; omega
        have e3 : bAt s 3 = 128 + r % 64 := by subst hs; show (UInt8.ofNat _).toNat = _; simp; omega
        have es : s.size = 4 := by subst hs; rfl
        have ef : (firstT (240 + r / 262144) = 52 ∧ r < 262144) ∨ (firstT (240 + r / 262144) = 4) ∨ (firstT (240 + r / 262144) = 68 ∧ r / 262144 = 4) := by
          unfold firstT
          repeat' split
          all_goals omega
        refine ⟨by omega, by omega, ?_, ?_, ?_, ?_, ?_, by omega, by omega, ?_⟩
        · unfold decodeGo
          rw [es, if_neg (by decide), decode_at, es]
          change decodeN 4 (bAt s 0) (bAt s 1) (bAt s 2) (bAt s 3) = _
          rw [e0, e1, e2, e3]; unfold decodeN
          have hc : (240 + r / 262144) % 8 * 262144 + (128 + r / 4096 % 64) % 64 * 4096 + (128 + r / 64 % 64) % 64 * 64 + (128 + r % 64) % 64 = r := by omega
          rw [if_neg (by omega), if_neg (by omega), if_neg (by omega), if_pos (by omega), hc, if_pos (by omega)]
        · intro k hk; rw [e0, es]; rcases ef with ⟨ef, _⟩ | ef | ⟨ef, _⟩ <;> (rw [ef] <;> omega)
        · intro _; rw [e0]; rcases ef with ⟨ef, _⟩ | ef | ⟨ef, _⟩ <;> (rw [ef] <;> omega)
        · intro _; rw [e0, e1]; rcases ef with ⟨ef, _⟩ | ef | ⟨ef, _⟩ <;> (rw [ef]; simp [accLo, accHi] <;> omega)
        · intro _; omega
        · intro j h3 h4
          have : j = 1 ∨ j = 2 ∨ j = 3 := by omega
          rcases this with rfl | rfl | rfl <;> omega
end Go.Proofs.YtnolkpknoljacaaDoor
