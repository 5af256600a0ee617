/- utf8.FullRune; the tables out of the rows' premise; the bytes of runes. -/
import Derived.Test.YtnolkpknoljacaaDoorWa
import Derived.Test.YtnolkpknoljacaaDoorRows
import Derived.LaidHandle
set_option linter.unusedVariables false
set_option linter.unusedSimpArgs false
namespace Go.Proofs.YtnolkpknoljacaaDoor
open Go.RowKit Go.Lib

theorem Tabs.below {w w' : World} (h : Tabs w) (hb : Below w.heap.size w w') : Tabs w' :=
  ⟨fun c hc => below_cell hb (h.1 c hc), fun i hi => ⟨below_cell hb (h.2 i hi).1, below_cell hb (h.2 i hi).2⟩⟩
theorem first_data : (Rows.laid_unicode_utf8_first : DataW Unit) = firstData := by kernel_rfl
theorem accept_data : (Rows.laid_unicode_utf8_acceptRanges : DataW Unit) = acceptData := by rfl
def seatLaid : List (String × DataW Unit) := [("unicode/utf8.acceptRanges", Rows.laid_unicode_utf8_acceptRanges), ("unicode/utf8.first", Rows.laid_unicode_utf8_first)]
theorem tabs_of {W : World} (h : laidMetH Tryd.prog seatLaid W) : Tabs W := by
  change laidMet Tryd.prog seatLaid W at h
  have h4 := laidMet.reads h (n := "unicode/utf8.acceptRanges") (d := Rows.laid_unicode_utf8_acceptRanges) (.head _)
  have h3 := laidMet.reads h (n := "unicode/utf8.first") (d := Rows.laid_unicode_utf8_first) (.tail _ (.head _))
  rw [accept_data] at h4
  rw [first_data] at h3
  have n3 : Tryd.prog.globalNamed "unicode/utf8.first" = some 0 := by kernel_rfl
  have n4 : Tryd.prog.globalNamed "unicode/utf8.acceptRanges" = some 1 := by kernel_rfl
  have y3 : (Tryd.prog.globals[0]?).map (·.type) = some 106 := by kernel_rfl
  have y4 : (Tryd.prog.globals[1]?).map (·.type) = some 109 := by kernel_rfl
  have c5 : Tryd.prog.cellsOf 5 = 1 := by kernel_rfl
  have c106 : Tryd.prog.cellsOf 106 = 256 := by kernel_rfl
  have c108 : Tryd.prog.cellsOf 108 = 2 := by kernel_rfl
  refine ⟨fun c hc => ?_, fun i hi => ?_⟩
  · obtain ⟨g, t, cs, fuel, p, hg, hty, hvar, hd⟩ := h3
    obtain rfl := Option.some.inj (n3.symm.trans hg)
    obtain rfl := Option.some.inj (y3.symm.trans hty)
    have hcs := cells_of_tab Tryd.underlying106 Tryd.underlying5 c5 c106 hd
    have := World.var?_cell hg hvar c
    rw [this, ← Array.getElem?_toList, hcs]
    simp [firstTab, hc]
  · obtain ⟨g, t, cs, fuel, p, hg, hty, hvar, hd⟩ := h4
    obtain rfl := Option.some.inj (n4.symm.trans hg)
    obtain rfl := Option.some.inj (y4.symm.trans hty)
    obtain ⟨fuel', d, q, hdi, he⟩ := array_elem Tryd.underlying109 hd i hi
    simp only [List.getElem?_map, List.getElem?_range hi, Option.map_some, Option.some.injEq] at hdi
    subst hdi
    rw [c108] at he
    have hcs := ints_of_struct Tryd.underlying108 (fun j f hj => by
      match j, hj with
      | 0, hj => simp at hj; subst hj; exact ⟨Tryd.underlying5, rfl, c5⟩
      | 1, hj => simp at hj; subst hj; exact ⟨Tryd.underlying5, rfl, c5⟩
      | j + 2, hj => simp at hj) (by rw [c108]; rfl) he
    have e0 := congrArg (·[0]?) hcs
    have e1 := congrArg (·[1]?) hcs
    simp only [List.getElem?_take, List.getElem?_drop] at e0 e1
    constructor
    · rw [World.var?_cell hg hvar (2 * i), ← Array.getElem?_toList]
      simpa [Nat.mul_comm] using e0
    · rw [World.var?_cell hg hvar (2 * i + 1), ← Array.getElem?_toList]
      simpa [Nat.mul_comm] using e1

theorem dec_ltl {a : Nat} {b : Int} (h : b ≤ (a : Int)) : decide ((a : Int) < b) = false := by simp; omega
theorem dec_ltr {a : Nat} {b : Int} (h : (a : Int) ≤ b) : decide (b < (a : Int)) = false := by simp; omega
set_option maxRecDepth 100000 in
set_option maxHeartbeats 4000000 in
/-- The bytes of a rune, or ahead of its end. -/
theorem full_calls (m b0 b1 b2 b off cap : Nat) (w : World) (hT : Tabs w) (hm : 1 ≤ m) (hm4 : m ≤ 4) (hb0 : b0 < 256)
    (p0 : w.cell? ⟨b, off, none⟩ = some (.int .u8 b0)) (p1 : 1 < m → w.cell? ⟨b, off + 1, none⟩ = some (.int .u8 b1)) (p2 : 2 < m → w.cell? ⟨b, off + 2, none⟩ = some (.int .u8 b2))
    (h1 : 1 < m → accLo (firstT b0 / 16) ≤ b1 ∧ b1 ≤ accHi (firstT b0 / 16)) (h2 : 2 < m → 128 ≤ b2 ∧ b2 ≤ 191) (hx : m < firstT b0 % 8 → firstT b0 / 16 < 5) :
    Calls Tryd.prog 76 #[.slice (some ⟨b, off, none⟩) m cap] w fun e w' => e = .returned (.bool (decide (firstT b0 % 8 ≤ m))) ∧ Below w.heap.size w w' := by
  have hbs : b < w.heap.size := World.block_lt_of_cell? w _ p0
  have g0 : w.cell? ⟨0, b0, none⟩ = some (.int .u8 (firstT b0)) := hT.1 b0 hb0
  have HA := Hd.mk (fun h => hT.2 (firstT b0 / 16) (Nat.lt_of_lt_of_le (hx h) (by decide)))
  have hz : (0 : Int) < (m : Int) := by omega
  have hbz : (b0 : Int) < 256 := by omega
  have hcs := firstT_cases b0
  generalize firstT b0 = x at *
  by_cases hq : x % 8 ≤ m
  · have HQ := Hd.mk (show decide (x % 8 ≤ m) = true by simpa using hq)
    clear hT p1 p2 h1 h2 HA hx
    rcases hcs with rfl | rfl | rfl | rfl | rfl | rfl | rfl | rfl | rfl
    all_goals
      simp only [Nat.reduceMod] at hq
      go_enter Tryd.func76, Tryd.ntmps76
      go_wp2
      all_goals (go_ret; exact ⟨by rw [HQ.out]; rfl, Below.refl _ _⟩)
  · have HQ := Hd.mk (show decide (x % 8 ≤ m) = false by simpa using hq)
    have H1 := Hd.mk h1
    have H2 := Hd.mk h2
    obtain ⟨a0, a1⟩ := HA.out (by omega)
    clear HA hx
    have P1 := Hd.mk p1
    have P2 := Hd.mk p2
    clear hT h1 h2 p1 p2
    have hmm : m = 1 ∨ m = 2 ∨ m = 3 := by omega
    rcases hmm with rfl | rfl | rfl
    · rcases hcs with rfl | rfl | rfl | rfl | rfl | rfl | rfl | rfl | rfl
      all_goals first
        | (exfalso; omega)
        | (simp only [Nat.reduceMod, Nat.reduceDiv, Nat.reduceMul, accLo, accHi, ↓reduceIte, Nat.reduceEqDiff] at hq a0 a1
           go_enter Tryd.func76, Tryd.ntmps76
           go_upto_region 8 with (fail)
           go_quiet (fail)
           go_wp2_with fail
           exact bodyPost_ret (v := .bool false) (by simp [results, Tryd.results76, go_sem]) rfl ⟨by rw [HQ.out], below_next (below_alloc1 _ _) (quiet_below _)⟩)
    · have q1 := P1.out (by omega)
      obtain ⟨l1, l2⟩ := H1.out (by omega)
      rcases hcs with rfl | rfl | rfl | rfl | rfl | rfl | rfl | rfl | rfl
      all_goals first
        | (exfalso; omega)
        | (simp only [Nat.reduceMod, Nat.reduceDiv, Nat.reduceMul, accLo, accHi, ↓reduceIte, Nat.reduceEqDiff] at hq a0 a1 l1 l2
           have d1 := dec_ltl (Int.ofNat_le.mpr l1)
           have d2 := dec_ltr (Int.ofNat_le.mpr l2)
           push_cast at d1 d2
           clear l1 l2
           go_enter Tryd.func76, Tryd.ntmps76
           go_upto_region 8 with (fail)
           go_quiet (fail)
           go_wp2_with fail
           exact bodyPost_ret (v := .bool false) (by simp [results, Tryd.results76, go_sem]) rfl ⟨by rw [HQ.out], below_next (below_alloc1 _ _) (quiet_below _)⟩)
    · have q1 := P1.out (by omega)
      have q2 := P2.out (by omega)
      obtain ⟨l1, l2⟩ := H1.out (by omega)
      obtain ⟨l3, l4⟩ := H2.out (by omega)
      rcases hcs with rfl | rfl | rfl | rfl | rfl | rfl | rfl | rfl | rfl
      all_goals first
        | (exfalso; omega)
        | (simp only [Nat.reduceMod, Nat.reduceDiv, Nat.reduceMul, accLo, accHi, ↓reduceIte, Nat.reduceEqDiff] at hq a0 a1 l1 l2
           have d1 := dec_ltl (Int.ofNat_le.mpr l1)
           have d2 := dec_ltr (Int.ofNat_le.mpr l2)
           have d3 := dec_ltl (Int.ofNat_le.mpr l3)
           have d4 := dec_ltr (Int.ofNat_le.mpr l4)
           push_cast at d1 d2 d3 d4
           clear l1 l2 l3 l4
           go_enter Tryd.func76, Tryd.ntmps76
           go_upto_region 8 with (fail)
           go_quiet (fail)
           go_wp2_with fail
           exact bodyPost_ret (v := .bool false) (by simp [results, Tryd.results76, go_sem]) rfl ⟨by rw [HQ.out], below_next (below_alloc1 _ _) (quiet_below _)⟩)
end Go.Proofs.YtnolkpknoljacaaDoor
