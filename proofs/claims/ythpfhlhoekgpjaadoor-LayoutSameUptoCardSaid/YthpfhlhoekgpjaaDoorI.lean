/- layout.lone. -/
import Derived.Test.YthpfhlhoekgpjaaDoorG
import Derived.Test.YthpfhlhoekgpjaaDoorB2
set_option linter.unusedVariables false
set_option linter.unusedSimpArgs false
namespace Go.Proofs.YthpfhlhoekgpjaaDoor
open Go.RowKit

def widAt (l : List Cell) (k : Nat) : Int := match l[k]? with | some c => c.wd | none => 1
/-- Does half of a wide cell stand alone at k? -/
def loneB (l : List Cell) (k : Nat) : Bool :=
  (decide (widAt l k = 2) && (decide (l.length ≤ k + 1) || decide (widAt l (k + 1) ≠ 0))) || (decide (widAt l k = 0) && (decide (k = 0) || decide (widAt l (k - 1) ≠ 2)))
def loneStep (l : List Cell) (k : Nat) : List Cell := if loneB l k = true then l.set k blankC else l
def loneF (l : List Cell) : List Cell := (List.range l.length).foldl loneStep l
theorem widAt_get {l : List Cell} {k : Nat} (h : k < l.length) : widAt l k = l[k].wd := by simp [widAt, h]
theorem loneStep_len (l : List Cell) (k : Nat) : (loneStep l k).length = l.length := by unfold loneStep; split <;> simp
theorem lone_succ (l : List Cell) (k : Nat) : (List.range (k + 1)).foldl loneStep l = loneStep ((List.range k).foldl loneStep l) k := by
  rw [List.range_succ, List.foldl_append]; rfl
theorem own3 {w : World} {B g n c : Nat} {l : List Cell} (h : OC w B (.slice (some ⟨g, 0, none⟩) n c) l) {k : Nat} (hk : k < l.length) :
    w.frozen? ⟨g, k * 3, none⟩ = false ∧ w.frozen? ⟨g, k * 3 + 1, none⟩ = false ∧ w.frozen? ⟨g, k * 3 + 2, none⟩ = false := by
  have hn : n = l.length := by
    rcases h.2 with ⟨h1, _⟩ | ⟨g', cap, cur, h1, _⟩
    · cases h1
    · injection h1
  subst hn
  exact ⟨World.ownsRow.frozenAt h _, World.ownsRow.frozenAt h _, World.ownsRow.frozenAt h _⟩
theorem encs_set3 (l : List Cell) (k : Nat) (hk : k < l.length) (c : Cell) : encs (l.set k c) = (((encs l).set (k * 3) (.string c.t)).set (k * 3 + 1) (.int .i64 c.wd)).set (k * 3 + 2) (.int .i64 c.a) := by
  induction l generalizing k with
  | nil => simp at hk
  | cons d l ih =>
    cases k with
    | zero => simp [encs_cons, Cell.enc]
    | succ k =>
      have hk' : k < l.length := by simpa using hk
      have e : (k + 1) * 3 = k * 3 + 1 + 1 + 1 := by omega
      have e1 : (k + 1) * 3 + 1 = (k * 3 + 1) + 1 + 1 + 1 := by omega
      have e2 : (k + 1) * 3 + 2 = (k * 3 + 2) + 1 + 1 + 1 := by omega
      rw [List.set_cons_succ, encs_cons, encs_cons, e1, e2, e]
      simp only [Cell.enc, List.cons_append, List.nil_append, List.set_cons_succ]
      rw [← ih k hk']
theorem OC.set3 {w : World} {B g n cap : Nat} {l : List Cell} (h : OC w B (.slice (some ⟨g, 0, none⟩) n cap) l) {k : Nat} (hk : k < l.length) (c : Cell) :
    OC (((w.setCell ⟨g, k * 3, none⟩ (.string c.t)).setCell ⟨g, k * 3 + 1, none⟩ (.int .i64 c.wd)).setCell ⟨g, k * 3 + 2, none⟩ (.int .i64 c.a)) B (.slice (some ⟨g, 0, none⟩) n cap) (l.set k c) := by
  have hn : n = l.length := by
    rcases h.2 with ⟨h1, _⟩ | ⟨g', cap, cur, h1, _⟩
    · cases h1
    · injection h1
  subst hn
  have h1 := (World.ownsRow.stored h (k * 3) (.string c.t)).1
  have h2 := (World.ownsRow.stored h1 (k * 3 + 1) (.int .i64 c.wd)).1
  have h3 := (World.ownsRow.stored h2 (k * 3 + 2) (.int .i64 c.a)).1
  exact OC.mk h3 (by simp) (encs_set3 l k hk c).symm

set_option maxRecDepth 100000 in
set_option maxHeartbeats 4000000 in
theorem lone_calls (v : Value) (l : List Cell) (w : World) (hv : RC w v l) (hn : l.length * 32 ≤ 140737488355328) :
    Calls Tryd.prog 57 #[v] w fun e w' => ∃ v', e = .returned v' ∧ OC w' w.heap.size v' (loneF l) ∧ Below w.heap.size w w' := by
  have hu37 := Tryd.underlying37
  go_enter Tryd.func57, Tryd.ntmps57
  go_wp2_with (go_at_call 20; refine (cloneC_calls v l _ hv hn).mono ?_; rintro e w1 ⟨sv, rfl, so, hb1⟩; have HSO := Hd.mk so; have HB := Hd.mk hb1; obtain ⟨A, c, rfl⟩ := own_slice so; clear so hb1)
  go_loopg [9] l.length (fun gk i wr => ∃ (k : Nat) (cur : List Cell), k + gk = l.length ∧ i = .int .i64 k ∧ cur.length = l.length ∧ Hd ((List.range k).foldl loneStep l = cur) ∧ Hd (OC wr w.heap.size (.slice A l.length c) cur) ∧ Hd (Below w.heap.size w wr))
  case atStart => exact ⟨0, l, by omega, rfl, rfl, ⟨rfl⟩, HSO, HB⟩
  case round =>
    obtain ⟨k, cur, hk, rfl, hcl, HF, HO, HB⟩ := hrel
    have HK := Hd.mk hk
    have hgk2 : k ≤ l.length := by omega
    by_cases hlt0 : k < l.length
    · have hlt : k < cur.length := by omega
      have hgk : 0 < gk := by omega
      have HS := Hd.mk (lone_succ l k)
      obtain ⟨g, cap, hv2, hBg, hg, hcap, hm⟩ := own_form HO.out (by omega)
      injection hv2 with hv1 hv3 hv4
      clear hv3
      subst hv1 hv4
      obtain ⟨b, o, c', hv2, h1, h2, h3, hc⟩ := RC.at_ (OC.rc HO.out) hlt
      injection hv2 with hv1 hv3 hv4
      injection hv1 with hv1
      injection hv1 with hv1 hv5
      subst hv1 hv5 hv4
      simp only [Nat.zero_add] at hc
      obtain ⟨g0, g1, g2⟩ := hc k hlt
      have hwk := widAt_get hlt
      have HCL := Hd.mk hcl
      have HWK := Hd.mk hwk
      have HC := Hd.mk hc
      clear hk hc hwk hv3 hcl
      by_cases d2 : cur[k].wd = 2
      · have d2b : (cur[k].wd == 2) = true := beq_iff_eq.2 d2
        have d2c : (cur[k].wd == 0) = false := by simp [d2]
        have D2 := Hd.mk d2
        clear d2
        by_cases dn : l.length ≤ k + 1
        · have dn0 : cur.length ≤ k + 1 := by rw [HCL.out]; exact dn
          have HD := Hd.mk (show loneB cur k = true by simp [loneB, HWK.out, D2.out, dn0])
          clear dn0
          go_wp2_with (go_at_call 47; refine (blank_calls _).mono ?_; rintro e w1 ⟨rfl, hb1⟩; replace hb1 : Below wr.heap.size wr w1 := below_next (below_alloc1 wr _) hb1; have HO1 := Hd.mk (HO.out.below hb1); have HB1 := Hd.mk (below_then HB.out HB.out.size hb1); obtain ⟨e0, e1, e2⟩ := own3 HO1.out hlt; have k0 := below_cell hb1 g0; have k1 := below_cell hb1 g1; have k2 := below_cell hb1 g2; clear hb1)
          go_roundg (gk - 1)
          case measure => omega
          case rel => exact ⟨k + 1, cur.set k blankC, by have := HK.out; omega, by go_num, by simp; exact HCL.out, ⟨by rw [HS.out, HF.out, loneStep, if_pos HD.out]⟩, ⟨OC.set3 HO1.out hlt (oneC ⟨#[32]⟩)⟩, ⟨((HB1.out.setCell (by exact hBg) _).setCell (by exact hBg) _).setCell (by exact hBg) _⟩⟩
        · have dn' : k + 1 < cur.length := by rw [HCL.out]; omega
          have dn1 : ¬ cur.length ≤ k + 1 := by omega
          have DN := Hd.mk dn1
          clear dn1
          have q1 := (HC.out (k + 1) dn').2.1
          have hwk1 := Hd.mk (widAt_get dn')
          by_cases d0 : cur[k + 1].wd = 0
          · have d0b : (cur[k + 1].wd != 0) = false := by simp [d0]
            have HD := Hd.mk (show loneB cur k = false by simp [loneB, HWK.out, hwk1.out, D2.out, DN.out, d0])
            clear d0
            go_wp2_with fail
            go_roundg (gk - 1)
            case measure => omega
            case rel => exact ⟨k + 1, cur, by have := HK.out; omega, by go_num, HCL.out, ⟨by rw [HS.out, HF.out, loneStep, if_neg (by rw [HD.out]; decide)]⟩, ⟨HO.out.below (below_alloc1 wr _)⟩, ⟨below_then HB.out HB.out.size (below_alloc1 wr _)⟩⟩
          · have d0b : (cur[k + 1].wd != 0) = true := by simpa using d0
            have HD := Hd.mk (show loneB cur k = true by simp [loneB, HWK.out, hwk1.out, D2.out, DN.out, d0])
            clear d0
            go_wp2_with (go_at_call 47; refine (blank_calls _).mono ?_; rintro e w1 ⟨rfl, hb1⟩; replace hb1 : Below wr.heap.size wr w1 := below_next (below_alloc1 wr _) hb1; have HO1 := Hd.mk (HO.out.below hb1); have HB1 := Hd.mk (below_then HB.out HB.out.size hb1); obtain ⟨e0, e1, e2⟩ := own3 HO1.out hlt; have k0 := below_cell hb1 g0; have k1 := below_cell hb1 g1; have k2 := below_cell hb1 g2; clear hb1)
            go_roundg (gk - 1)
            case measure => omega
            case rel => exact ⟨k + 1, cur.set k blankC, by have := HK.out; omega, by go_num, by simp; exact HCL.out, ⟨by rw [HS.out, HF.out, loneStep, if_pos HD.out]⟩, ⟨OC.set3 HO1.out hlt (oneC ⟨#[32]⟩)⟩, ⟨((HB1.out.setCell (by exact hBg) _).setCell (by exact hBg) _).setCell (by exact hBg) _⟩⟩
      · have d2b : (cur[k].wd == 2) = false := beq_eq_false_iff_ne.2 d2
        have D2 := Hd.mk d2
        clear d2
        by_cases d0 : cur[k].wd = 0
        · have d0b : (cur[k].wd == 0) = true := beq_iff_eq.2 d0
          have D0 := Hd.mk d0
          clear d0
          by_cases dk : k = 0
          · have dkb : ((k : Int) == 0) = true := by simp [dk]
            have HD := Hd.mk (show loneB cur k = true by unfold loneB; rw [HWK.out, D0.out]; simp [dk])
            clear dk
            go_wp2_with (go_at_call 47; refine (blank_calls _).mono ?_; rintro e w1 ⟨rfl, hb1⟩; replace hb1 : Below wr.heap.size wr w1 := below_next (below_alloc1 wr _) hb1; have HO1 := Hd.mk (HO.out.below hb1); have HB1 := Hd.mk (below_then HB.out HB.out.size hb1); obtain ⟨e0, e1, e2⟩ := own3 HO1.out hlt; have k0 := below_cell hb1 g0; have k1 := below_cell hb1 g1; have k2 := below_cell hb1 g2; clear hb1)
            go_roundg (gk - 1)
            case measure => omega
            case rel => exact ⟨k + 1, cur.set k blankC, by have := HK.out; omega, by go_num, by simp; exact HCL.out, ⟨by rw [HS.out, HF.out, loneStep, if_pos HD.out]⟩, ⟨OC.set3 HO1.out hlt (oneC ⟨#[32]⟩)⟩, ⟨((HB1.out.setCell (by exact hBg) _).setCell (by exact hBg) _).setCell (by exact hBg) _⟩⟩
          · have dkb : ((k : Int) == 0) = false := by simpa using dk
            have dn' : k - 1 < cur.length := by omega
            have q1 := (HC.out (k - 1) dn').2.1
            have hwk1 := Hd.mk (widAt_get dn')
            by_cases dp : cur[k - 1].wd = 2
            · have dpb : (cur[k - 1].wd != 2) = false := by simp [dp]
              have HD := Hd.mk (show loneB cur k = false by simp [loneB, HWK.out, hwk1.out, D0.out, dk, dp])
              clear dp
              go_wp2_with fail
              go_roundg (gk - 1)
              case measure => omega
              case rel => exact ⟨k + 1, cur, by have := HK.out; omega, by go_num, HCL.out, ⟨by rw [HS.out, HF.out, loneStep, if_neg (by rw [HD.out]; decide)]⟩, ⟨HO.out.below (below_alloc1 wr _)⟩, ⟨below_then HB.out HB.out.size (below_alloc1 wr _)⟩⟩
            · have dpb : (cur[k - 1].wd != 2) = true := by simpa using dp
              have HD := Hd.mk (show loneB cur k = true by simp [loneB, HWK.out, hwk1.out, D0.out, dk, dp])
              clear dp
              go_wp2_with (go_at_call 47; refine (blank_calls _).mono ?_; rintro e w1 ⟨rfl, hb1⟩; replace hb1 : Below wr.heap.size wr w1 := below_next (below_alloc1 wr _) hb1; have HO1 := Hd.mk (HO.out.below hb1); have HB1 := Hd.mk (below_then HB.out HB.out.size hb1); obtain ⟨e0, e1, e2⟩ := own3 HO1.out hlt; have k0 := below_cell hb1 g0; have k1 := below_cell hb1 g1; have k2 := below_cell hb1 g2; clear hb1)
              go_roundg (gk - 1)
              case measure => omega
              case rel => exact ⟨k + 1, cur.set k blankC, by have := HK.out; omega, by go_num, by simp; exact HCL.out, ⟨by rw [HS.out, HF.out, loneStep, if_pos HD.out]⟩, ⟨OC.set3 HO1.out hlt (oneC ⟨#[32]⟩)⟩, ⟨((HB1.out.setCell (by exact hBg) _).setCell (by exact hBg) _).setCell (by exact hBg) _⟩⟩
        · have d0b : (cur[k].wd == 0) = false := beq_eq_false_iff_ne.2 d0
          have HD := Hd.mk (show loneB cur k = false by simp [loneB, HWK.out, D2.out, d0])
          clear d0
          go_wp2_with fail
          go_roundg (gk - 1)
          case measure => omega
          case rel => exact ⟨k + 1, cur, by have := HK.out; omega, by go_num, HCL.out, ⟨by rw [HS.out, HF.out, loneStep, if_neg (by rw [HD.out]; decide)]⟩, ⟨HO.out.below (below_alloc1 wr _)⟩, ⟨below_then HB.out HB.out.size (below_alloc1 wr _)⟩⟩
    · have HFin : Hd (loneF l = cur) := ⟨by unfold loneF; rw [show l.length = k by omega]; exact HF.out⟩
      go_wp2_with fail
      go_ret
      refine ⟨_, rfl, ?_, HB.out⟩
      rw [HFin.out]
      exact HO.out
end Go.Proofs.YthpfhlhoekgpjaaDoor
