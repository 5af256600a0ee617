/- LayoutPoints: the walk. -/
import Derived.Test.YthpfhlhoekgpjaaDoorX
set_option linter.unusedVariables false
set_option linter.unusedSimpArgs false
namespace Go.Proofs.YthpfhlhoekgpjaaDoor
open Go.RowKit

/-- Where the cursor stands at each point of a line. -/
def posF (prompt line : List Int) (cols p : Nat) : Nat × Nat := (rowsF prompt line p cols false).2
def PosLe (a b : Nat × Nat) : Prop := a.1 < b.1 ∨ a.1 = b.1 ∧ a.2 ≤ b.2
theorem checkF_ok {np nl : Nat} {point rows cols : Int} (h : checkF np nl point rows cols = 0) : 2 ≤ rows ∧ rows ≤ 60 ∧ 8 ≤ cols ∧ cols ≤ 200 ∧ np ≤ 1024 ∧ nl ≤ 1024 ∧ 0 ≤ point ∧ point ≤ nl := by
  unfold checkF at h
  repeat' split at h
  all_goals omega
theorem checkF_mk {np nl : Nat} {point rows cols : Int} (h : 2 ≤ rows ∧ rows ≤ 60 ∧ 8 ≤ cols ∧ cols ≤ 200 ∧ np ≤ 1024 ∧ nl ≤ 1024 ∧ 0 ≤ point ∧ point ≤ nl) : checkF np nl point rows cols = 0 := by
  unfold checkF
  repeat' split
  all_goals omega
/-- What the loop of LayoutPoints keeps. -/
def PS (w0 : World) (k0 ab : Nat) (pv lv : Value) (q rows cols r c : Int) (w : World) : Prop :=
  Below k0 w0 w ∧ w.heap[k0]? = some (.cells #[pv, lv, .int .i64 q, .int .i64 rows, .int .i64 cols, .bool false] 24 (0, 0)) ∧ w.heap[ab]? = some (.cells #[.int .i64 r, .int .i64 c] 27 (0, 0)) ∧ k0 ≤ ab ∧ k0 ≤ w.heap.size
theorem PS.below {w0 : World} {k0 ab : Nat} {pv lv : Value} {q rows cols r c : Int} {w w' : World} (h : PS w0 k0 ab pv lv q rows cols r c w) (hb : Below w.heap.size w w') : PS w0 k0 ab pv lv q rows cols r c w' :=
  ⟨below_then h.1 h.2.2.2.2 hb, box_touch h.2.1 (Touch.of_below (S := fun _ => False) hb) id, box_touch h.2.2.1 (Touch.of_below (S := fun _ => False) hb) id, h.2.2.2.1, Nat.le_trans h.2.2.2.2 hb.size⟩
theorem six_set {w : World} {b : Nat} {v0 v1 v2 v3 v4 v5 u : Value} {T : TypeId} (h : w.heap[b]? = some (.cells #[v0, v1, v2, v3, v4, v5] T (0, 0))) : (w.setCell ⟨b, 2, none⟩ u).heap[b]? = some (.cells #[v0, v1, u, v3, v4, v5] T (0, 0)) := by
  simp [World.setCell, Array.getElem?_modify, h]
theorem PS.point {w0 : World} {k0 ab : Nat} {pv lv : Value} {q rows cols r c : Int} {w : World} (h : PS w0 k0 ab pv lv q rows cols r c w) (p : Int) : PS w0 k0 ab pv lv p rows cols r c (w.setCell ⟨k0, 2, none⟩ (.int .i64 p)) :=
  ⟨h.1.setCell (p := ⟨k0, 2, none⟩) (Nat.le_refl _) _, six_set h.2.1, box_touch h.2.2.1 ((Touch.refl (fun j => j = k0) w).setCell ⟨k0, 2, none⟩ (.int .i64 p) rfl) (ne_type h.2.2.1 h.2.1 (by decide)), h.2.2.2.1, by simpa using h.2.2.2.2⟩
theorem PS.last {w0 : World} {k0 ab : Nat} {pv lv : Value} {q rows cols r c : Int} {w : World} (h : PS w0 k0 ab pv lv q rows cols r c w) (r' c' : Int) : PS w0 k0 ab pv lv q rows cols r' c' ((w.setCell ⟨ab, 0, none⟩ (.int .i64 r')).setCell ⟨ab, 1, none⟩ (.int .i64 c')) :=
  ⟨(h.1.setCell (p := ⟨ab, 0, none⟩) h.2.2.2.1 _).setCell (p := ⟨ab, 1, none⟩) h.2.2.2.1 _,
    box_touch h.2.1 (((Touch.refl (fun j => j = ab) w).setCell ⟨ab, 0, none⟩ (.int .i64 r') rfl).setCell ⟨ab, 1, none⟩ (.int .i64 c') rfl) (ne_type h.2.1 h.2.2.1 (by decide)), two_set h.2.2.1, h.2.2.2.1, by simpa using h.2.2.2.2⟩
theorem PS.cells {w0 : World} {k0 ab : Nat} {pv lv : Value} {q rows cols r c : Int} {w : World} (h : PS w0 k0 ab pv lv q rows cols r c w) :
    w.cell? ⟨k0, 0, none⟩ = some pv ∧ w.cell? ⟨k0, 1, none⟩ = some lv ∧ w.cell? ⟨k0, 2, none⟩ = some (.int .i64 q) ∧ w.cell? ⟨k0, 3, none⟩ = some (.int .i64 rows) ∧ w.cell? ⟨k0, 4, none⟩ = some (.int .i64 cols) ∧ w.cell? ⟨k0, 5, none⟩ = some (.bool false) ∧ w.frozen? ⟨k0, 2, none⟩ = false ∧
      w.cell? ⟨ab, 0, none⟩ = some (.int .i64 r) ∧ w.cell? ⟨ab, 1, none⟩ = some (.int .i64 c) ∧ w.frozen? ⟨ab, 0, none⟩ = false ∧ w.frozen? ⟨ab, 1, none⟩ = false := by
  refine ⟨?_, ?_, ?_, ?_, ?_, ?_, blk_froz h.2.1 _, ?_, ?_, blk_froz h.2.2.1 _, blk_froz h.2.2.1 _⟩
  all_goals first | (rw [blk_cell h.2.1]; rfl) | (rw [blk_cell h.2.2.1]; rfl)

set_option maxRecDepth 100000 in
set_option maxHeartbeats 4000000 in
theorem points_calls (pure_law : ∀ (prompt line : List Int) (cols p : Nat), 8 ≤ cols → p < line.length → PosLe (posF prompt line cols p) (posF prompt line cols (p + 1))) (pv lv : Value) (prompt line : List Int) (point rows cols : Int) (across : Bool) (w : World) (hL : Laid w) (hp : RI w pv prompt) (hl : RI w lv line) :
    Calls Tryd.prog 6 #[.agg #[pv, lv, .int .i64 point, .int .i64 rows, .int .i64 cols, .bool across]] w fun e w' => e = .returned (.bool true) ∧ Below w.heap.size w w' := by
  have HPV := Hd.mk hp
  have HLV := Hd.mk hl
  have HL := Hd.mk hL
  have HP := Hd.mk pure_law
  obtain ⟨Ap, cp, rfl, p1, p2, -⟩ := hp
  obtain ⟨Al, cl, rfl, l1, l2, -⟩ := hl
  have hp3 : prompt.length ≤ 9223372036854775807 := Nat.le_trans p1 (by unfold maxLen at p2; omega)
  have hl3 : line.length ≤ 9223372036854775807 := Nat.le_trans l1 (by unfold maxLen at l2; omega)
  clear hL pure_law p1 p2 l1 l2
  have HB0 := Hd.mk (below_alloc1 w (.cells #[.slice Ap prompt.length cp, .slice Al line.length cl, .int .i64 0, .int .i64 rows, .int .i64 cols, .bool false] 24))
  have HX0 := Hd.mk (heap_alloc_new w (.cells #[.slice Ap prompt.length cp, .slice Al line.length cl, .int .i64 0, .int .i64 rows, .int .i64 cols, .bool false] 24))
  go_enter Tryd.func6, Tryd.ntmps6
  go_wp2_with fail
  generalize w.alloc (.cells #[.slice Ap prompt.length cp, .slice Al line.length cl, .int .i64 0, .int .i64 rows, .int .i64 cols, .bool false] 24) = w0 at *
  refine (rcheck_calls Ap Al prompt.length line.length cp cl 0 rows cols false w0 hp3 hl3).mono ?_
  rintro e w1 ⟨rfl, hb1⟩
  have HB1 := Hd.mk (below_next HB0.out hb1)
  have HX1 := Hd.mk (box_touch HX0.out (Touch.of_below (S := fun _ => False) hb1) id)
  clear hb1
  have HLI := Hd.mk (fun wx (hb : Below w.heap.size w wx) => live_calls wx (HL.out.step hb))
  have y1 : w1.cell? ⟨w.heap.size, 1, none⟩ = some (.slice Al line.length cl) := by rw [blk_cell HX1.out]; rfl
  by_cases hck : checkF prompt.length line.length 0 rows cols = 0
  · have HCK := Hd.mk hck
    have hcb : (checkF prompt.length line.length 0 rows cols != 0) = false := by simpa using hck
    clear hck
    by_cases h200 : line.length ≤ 200
    · go_upto_region 4 with ((go_at_call 11; refine (HLI.out _ HB1.out).mono ?_; rintro e w2 ⟨rfl, hb2⟩; have HB2 := Hd.mk (below_next HB1.out hb2); have HX2 := Hd.mk (box_touch HX1.out (Touch.of_below (S := fun _ => False) hb2) id); clear hb2))
      have hbz := HB2.out.size
      have HS2 : Hd (PS w w.heap.size w2.heap.size (.slice Ap prompt.length cp) (.slice Al line.length cl) 0 rows cols (-1) 0 (w2.alloc (.cells #[.int .i64 (-1), .int .i64 0] 27))) :=
        ⟨below_next HB2.out (below_alloc1 w2 _), heap_at HX2.out, heap_alloc_new _ _, hbz, by simp; omega⟩
      have z1 := HS2.out.cells.2.1
      go_upto_region 5 with (fail)
      generalize w2.alloc (.cells #[.int .i64 (-1), .int .i64 0] 27) = w3 at *
      generalize w2.heap.size = ab at *
      go_wp2_with fail
      clear z1
      obtain ⟨hr1, hr2, hc1, hc2, hpn, hln, -, -⟩ := checkF_ok HCK.out
      obtain ⟨rn, rfl⟩ := Int.eq_ofNat_of_zero_le (show 0 ≤ rows by omega)
      obtain ⟨cn, rfl⟩ := Int.eq_ofNat_of_zero_le (show 0 ≤ cols by omega)
      go_loopg [29] (line.length + 1) (fun gk i wr => ∃ (k : Nat) (q lr lc : Int), k + gk = line.length + 1 ∧ i = .int .i64 k ∧ (lr = -1 ∧ lc = 0 ∧ k = 0 ∨ ∃ k', k = k' + 1 ∧ lr = (posF prompt line cn k').1 ∧ lc = (posF prompt line cn k').2) ∧
        Hd (PS w w.heap.size ab (.slice Ap prompt.length cp) (.slice Al line.length cl) q rn cn lr lc wr))
      case atStart => exact ⟨0, 0, -1, 0, by omega, rfl, .inl ⟨rfl, rfl, rfl⟩, HS2⟩
      case round =>
        obtain ⟨k, q, lr, lc, hk, rfl, hlast, HS⟩ := hrel
        by_cases hlt : k < line.length + 1
        · obtain ⟨c0, c1, c2, c3, c4, c5, c6, c7, c8, c9, c10⟩ := HS.out.cells
          have hcmp : (posF prompt line cn k).1 ≥ lr ∧ ((posF prompt line cn k).1 = lr → lc ≤ (posF prompt line cn k).2) := by
            rcases hlast with ⟨rfl, rfl, rfl⟩ | ⟨k', rfl, rfl, rfl⟩
            · exact ⟨by omega, fun h => by omega⟩
            · have hp := HP.out prompt line cn k' (by omega) (by omega)
              unfold PosLe at hp
              exact ⟨by omega, fun h => by omega⟩
          have HSW := Hd.mk (HS.out.point k)
          have HCK2 := Hd.mk (checkF_mk (np := prompt.length) (nl := line.length) (point := (k : Int)) (rows := (rn : Int)) (cols := (cn : Int)) ⟨hr1, hr2, hc1, hc2, hpn, hln, by omega, by omega⟩)
          clear hlast
          go_wp2_with fail
          clear c0 c1 c2 c3 c4 c5 c6 c7 c8 c9 c10
          generalize wr.setCell ⟨w.heap.size, 2, none⟩ (.int .i64 k) = w4 at *
          refine (rows_calls _ _ prompt line k rn cn false w4 (HL.out.step HSW.out.1) (Rd.below HPV.out HSW.out.1) (Rd.below HLV.out HSW.out.1) HCK2.out).mono ?_
          rintro e w5 ⟨v5, rfl, ho5, hb5⟩
          obtain ⟨A5, c5, rfl⟩ := ho5.slice
          clear ho5
          have hb6 := below_next hb5 (below_alloc1 w5 (.cells #[.int .i64 (rowsF prompt line k cn false).2.1, .int .i64 (rowsF prompt line k cn false).2.2] 27))
          have HS6 := Hd.mk (HSW.out.below hb6)
          have hx6 := heap_alloc_new w5 (.cells #[.int .i64 (rowsF prompt line k cn false).2.1, .int .i64 (rowsF prompt line k cn false).2.2] 27)
          change ((rowsF prompt line k cn false).2.1 : Int) ≥ lr ∧ (((rowsF prompt line k cn false).2.1 : Int) = lr → lc ≤ (rowsF prompt line k cn false).2.2) at hcmp
          go_upto_region 10 with (fail)
          generalize w5.alloc (.cells #[.int .i64 (rowsF prompt line k cn false).2.1, .int .i64 (rowsF prompt line k cn false).2.2] 27) = w6 at *
          have HRC := Hd.mk (show posF prompt line cn k = (rowsF prompt line k cn false).2 from rfl)
          have e0 : w6.cell? ⟨w5.heap.size, 0, none⟩ = some (.int .i64 (rowsF prompt line k cn false).2.1) := by rw [blk_cell hx6]; rfl
          have e1 : w6.cell? ⟨w5.heap.size, 1, none⟩ = some (.int .i64 (rowsF prompt line k cn false).2.2) := by rw [blk_cell hx6]; rfl
          obtain ⟨_, _, _, _, _, _, _, c7, c8, c9, c10⟩ := HS6.out.cells
          clear hx6 hb6 hb5
          generalize (rowsF prompt line k cn false).2 = rc at *
          obtain ⟨r, c⟩ := rc
          simp only at hcmp e0 e1
          obtain ⟨hc3, hc4⟩ := hcmp
          have d1 : decide ((r : Int) < lr) = false := by simp; omega
          have HS7 := Hd.mk (HS6.out.last r c)
          by_cases hrl : (r : Int) = lr
          · have d2 : ((r : Int) == lr) = true := by simpa using hrl
            have d3 : decide ((c : Int) < lc) = false := by have := hc4 hrl; simp; omega
            clear hc3 hc4 hrl
            go_wp2_with fail
            go_roundg (gk - 1)
            case measure => omega
            case rel => exact ⟨k + 1, k, r, c, by omega, by go_num, .inr ⟨k, rfl, by rw [HRC.out], by rw [HRC.out]⟩, HS7⟩
          · have d2 : ((r : Int) == lr) = false := by simpa using hrl
            clear hc3 hc4 hrl
            go_wp2_with fail
            go_roundg (gk - 1)
            case measure => omega
            case rel => exact ⟨k + 1, k, r, c, by omega, by go_num, .inr ⟨k, rfl, by rw [HRC.out], by rw [HRC.out]⟩, HS7⟩
        · go_wp2_with fail
          exact bodyPost_ret (v := .bool true) (by simp [results, Tryd.results6, go_sem]) rfl ⟨rfl, HS.out.1⟩
    · go_wp2_with (go_at_call 11; refine (HLI.out _ HB1.out).mono ?_; rintro e w2 ⟨rfl, hb2⟩)
      exact bodyPost_ret (v := .bool true) (by simp [results, Tryd.results6, go_sem]) rfl ⟨rfl, below_next HB1.out hb2⟩
  · have hcb : (checkF prompt.length line.length 0 rows cols != 0) = true := by simpa using hck
    clear hck
    go_wp2_with (go_at_call 11; refine (HLI.out _ HB1.out).mono ?_; rintro e w2 ⟨rfl, hb2⟩)
    exact bodyPost_ret (v := .bool true) (by simp [results, Tryd.results6, go_sem]) rfl ⟨rfl, below_next HB1.out hb2⟩
end Go.Proofs.YthpfhlhoekgpjaaDoor
