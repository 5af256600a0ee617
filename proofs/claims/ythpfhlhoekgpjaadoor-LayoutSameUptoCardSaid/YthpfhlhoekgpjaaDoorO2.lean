/- layout.Rows: the walk. -/
import Derived.Test.YthpfhlhoekgpjaaDoorO
set_option linter.unusedVariables false
set_option linter.unusedSimpArgs false
namespace Go.Proofs.YthpfhlhoekgpjaaDoor
open Go.RowKit

/-- A show in its box, a result's place behind it. -/
def SB (k : Nat) (pv lv : Value) (point rows cols : Nat) (across : Bool) (w : World) : Prop :=
  w.heap[k]? = some (.cells #[pv, lv, .int .i64 point, .int .i64 rows, .int .i64 cols, .bool across] 24 (0, 0)) ∧ w.heap[k + 1]? = some (.cells #[.int .i64 0, .int .i64 0] 27 (0, 0))
theorem SB.below {k : Nat} {pv lv : Value} {point rows cols : Nat} {across : Bool} {w w' : World} (h : SB k pv lv point rows cols across w) (hb : Below w.heap.size w w') : SB k pv lv point rows cols across w' :=
  ⟨box_touch h.1 (Touch.of_below (S := fun _ => False) hb) id, box_touch h.2 (Touch.of_below (S := fun _ => False) hb) id⟩
theorem SB.grown {k B : Nat} {pv lv v : Value} {point rows cols n : Nat} {xs : List Value} {across : Bool} {w w' : World} (h : SB k pv lv point rows cols across w) (ho : w.ownsRow B 35 1 v n xs) (hg : w.grownBy w' v.ownBlock) : SB k pv lv point rows cols across w' :=
  ⟨box_touch h.1 (Touch.of_grown hg) (own_not ho h.1 (by decide)), box_touch h.2 (Touch.of_grown hg) (own_not ho h.2 (by decide))⟩
theorem SB.cells {k : Nat} {pv lv : Value} {point rows cols : Nat} {across : Bool} {w : World} (h : SB k pv lv point rows cols across w) :
    w.cell? ⟨k, 0, none⟩ = some pv ∧ w.cell? ⟨k, 1, none⟩ = some lv ∧ w.cell? ⟨k, 2, none⟩ = some (.int .i64 point) ∧ w.cell? ⟨k, 3, none⟩ = some (.int .i64 rows) ∧ w.cell? ⟨k, 4, none⟩ = some (.int .i64 cols) ∧ w.cell? ⟨k, 5, none⟩ = some (.bool across) := by
  refine ⟨?_, ?_, ?_, ?_, ?_, ?_⟩ <;> (rw [blk_cell h.1]; rfl)
theorem SB.res {k : Nat} {pv lv : Value} {point rows cols : Nat} {across : Bool} {w : World} (h : SB k pv lv point rows cols across w) :
    w.cell? ⟨k + 1, 0, none⟩ = some (.int .i64 0) ∧ w.cell? ⟨k + 1, 1, none⟩ = some (.int .i64 0) ∧ w.frozen? ⟨k + 1, 0, none⟩ = false ∧ w.frozen? ⟨k + 1, 1, none⟩ = false :=
  ⟨by rw [blk_cell h.2]; rfl, by rw [blk_cell h.2]; rfl, blk_froz h.2 _, blk_froz h.2 _⟩
theorem SB.lt {k : Nat} {pv lv : Value} {point rows cols : Nat} {across : Bool} {w : World} (h : SB k pv lv point rows cols across w) : k + 1 < w.heap.size := box_lt h.2

theorem OR.touch {w w' : World} {B b : Nat} {v : Value} {ll : List (List Cell)} {cs : Array Value} {T : TypeId} {f : Nat × Nat} (h : OR w B v ll) (hT : Touch (fun k => k = b) w w') (hb : w.heap[b]? = some (.cells cs T f)) (h1 : 35 ≠ T) (h2 : 37 ≠ T) : OR w' B v ll := by
  obtain ⟨vs, o1, o2⟩ := h
  exact ⟨vs, Touch.own o1 hT (fun k hk e => own_not o1 hb h1 (by rw [hk, e])), o2.imp (fun _ _ x => Touch.own x hT (fun k hk e => own_not x hb h2 (by rw [hk, e])))⟩
/-- The result's place is written. -/
theorem SB.set {k B B0 : Nat} {pv lv v : Value} {point rows cols : Nat} {across : Bool} {ll : List (List Cell)} {w0 w : World} (h : SB k pv lv point rows cols across w) (x y : Value) (ho : OR w B v ll) (hb : Below B0 w0 w) (hk : B0 ≤ k) (hB : B0 ≤ B) :
    OR ((w.setCell ⟨k + 1, 0, none⟩ x).setCell ⟨k + 1, 1, none⟩ y) B0 v ll ∧ Below B0 w0 ((w.setCell ⟨k + 1, 0, none⟩ x).setCell ⟨k + 1, 1, none⟩ y) :=
  ⟨(ho.touch (((Touch.refl (fun j => j = k + 1) w).setCell ⟨k + 1, 0, none⟩ x rfl).setCell ⟨k + 1, 1, none⟩ y rfl) h.2 (by decide) (by decide)).mono hB,
    (hb.setCell (p := ⟨k + 1, 0, none⟩) (by show B0 ≤ k + 1; omega) x).setCell (p := ⟨k + 1, 1, none⟩) (by show B0 ≤ k + 1; omega) y⟩
set_option maxRecDepth 100000 in
set_option maxHeartbeats 4000000 in
theorem rows_calls (pv lv : Value) (prompt line : List Int) (point rows cols : Nat) (across : Bool) (w : World) (hL : Laid w) (hp : RI w pv prompt) (hl : RI w lv line) (hck : checkF prompt.length line.length point rows cols = 0) :
    Calls Tryd.prog 14 #[.agg #[pv, lv, .int .i64 point, .int .i64 rows, .int .i64 cols, .bool across]] w fun e w' =>
      ∃ v', e = .returned (.tuple #[v', .agg #[.int .i64 (rowsF prompt line point cols across).2.1, .int .i64 (rowsF prompt line point cols across).2.2], .int .i64 0]) ∧
        OR w' w.heap.size v' (rowsF prompt line point cols across).1 ∧ Below w.heap.size w w' := by
  have hb : 2 ≤ rows ∧ rows ≤ 60 ∧ 8 ≤ cols ∧ cols ≤ 200 ∧ prompt.length ≤ 1024 ∧ line.length ≤ 1024 ∧ point ≤ line.length := by
    unfold checkF at hck
    repeat' split at hck
    all_goals omega
  obtain ⟨hr2, hr60, hc8, hc200, hpn, hln, hpt⟩ := hb
  have HPV := Hd.mk hp
  have HLV := Hd.mk hl
  obtain ⟨Ap, cp, rfl, -⟩ := hp
  obtain ⟨Al, cl, rfl, -⟩ := hl
  have HL := Hd.mk hL
  have HCK := Hd.mk hck
  clear hL hck
  have HS0 := Hd.mk (show SB w.heap.size (.slice Ap prompt.length cp) (.slice Al line.length cl) point rows cols across ((w.alloc (.cells #[.slice Ap prompt.length cp, .slice Al line.length cl, .int .i64 point, .int .i64 rows, .int .i64 cols, .bool across] 24)).alloc (.cells #[.int .i64 0, .int .i64 0] 27)) from
    ⟨heap_at (heap_alloc_new _ _), by have := heap_alloc_new (w.alloc (.cells #[.slice Ap prompt.length cp, .slice Al line.length cl, .int .i64 point, .int .i64 rows, .int .i64 cols, .bool across] 24)) (.cells #[.int .i64 0, .int .i64 0] 27); simpa using this⟩)
  have HB0 := Hd.mk (show Below w.heap.size w ((w.alloc (.cells #[.slice Ap prompt.length cp, .slice Al line.length cl, .int .i64 point, .int .i64 rows, .int .i64 cols, .bool across] 24)).alloc (.cells #[.int .i64 0, .int .i64 0] 27)) from
    ((Below.refl _ _).alloc (Nat.le_refl _) _).alloc (by simp) _)
  go_enter Tryd.func14, Tryd.ntmps14
  go_wp2_with (go_at_call 35; refine (check_calls Ap Al prompt.length line.length cp cl point rows cols across _ (by omega) (by omega)).mono ?_; rw [HCK.out]; rintro e w1 ⟨rfl, hb1⟩; have HS1 := Hd.mk (HS0.out.below hb1); have HB1 := Hd.mk (below_next HB0.out hb1); obtain ⟨y0, y1, y2, y3, y4, y5⟩ := HS1.out.cells; clear hb1)
  refine (parts_calls _ _ prompt line point rows cols across _ (by exact HL.out.step HB1.out) (Rd.below HPV.out HB1.out) (Rd.below HLV.out HB1.out) hpn hln hpt).mono ?_
  rintro e w2 ⟨hv, cv, rfl, hor, hoc, hb2⟩
  have HS2 := Hd.mk (HS1.out.below hb2)
  have HB2 := Hd.mk (below_next HB1.out hb2)
  have hsl := seen_len prompt ([], false)
  have hsl2 : (seenF prompt).length ≤ 1024 := by simp only [List.length_nil] at hsl; unfold seenF; omega
  have hspl := splitNL_len (seenF prompt)
  have HRF := Hd.mk (show rowsF prompt line point cols across = placeF (headRows cols ((splitNL (seenF prompt)).1.map cellsF)) (cellsF ((splitNL (seenF prompt)).2 ++ line)) cols (curF ((splitNL (seenF prompt)).2 ++ line) ((splitNL (seenF prompt)).2.length + point)) across from rfl)
  generalize hrest : (splitNL (seenF prompt)).2 = rest at *
  have hcl : ∀ h ∈ (splitNL (seenF prompt)).1.map cellsF, h.length ≤ 100000 := by
    intro h hh
    obtain ⟨l, hl, rfl⟩ := List.mem_map.1 hh
    have := hspl.2.2 l hl
    have := cellsF_len l
    omega
  have hhl : ((splitNL (seenF prompt)).1.map cellsF).length ≤ 1024 := by rw [List.length_map]; omega
  generalize hheads : (splitNL (seenF prompt)).1.map cellsF = heads at *
  have hc1 : (cellsF (rest ++ line)).length ≤ 100000 := by
    have := cellsF_len (rest ++ line)
    rw [List.length_append] at this
    omega
  have hc2 := curF_le (rest ++ line) (rest.length + point)
  generalize hcells : cellsF (rest ++ line) = cells at *
  generalize hat : curF (rest ++ line) (rest.length + point) = at_ at *
  have hw12 := hb2.size
  have HHL := Hd.mk hcl
  have HOR := Hd.mk hor
  have HOC := Hd.mk hoc
  have hBs := HB2.out.size
  have hB12 := HB1.out.size
  obtain ⟨Ah, ch, rfl⟩ := hor.slice
  obtain ⟨Ac, cc, rfl⟩ := own_slice hoc
  clear hor hoc hb2 hsl hspl hcl hrest hheads hcells hat
  obtain ⟨y0, y1, y2, y3, y4, y5⟩ := HS2.out.cells
  go_wp2_with fail
  go_loopg [9, 32] heads.length (fun gk vo i wr => ∃ (k : Nat) (outl : List (List Cell)), k + gk = heads.length ∧ i = .int .i64 k ∧ outl.length ≤ k * 200000 ∧ Hd (headRows cols (heads.take k) = outl) ∧ Hd (OR wr w2.heap.size vo outl ∧ Below w2.heap.size w2 wr))
  case atStart => exact ⟨0, [], by omega, rfl, by simp, ⟨by simp [headRows]⟩, ⟨OR.nil _ _, Below.refl _ _⟩⟩
  case round =>
    obtain ⟨k, outl, hk, rfl, hol, HF, HO⟩ := hrel
    have HSr := Hd.mk (HS2.out.below HO.out.2)
    obtain ⟨z0, z1, z2, z3, z4, z5⟩ := HSr.out.cells
    by_cases hlt : k < heads.length
    · obtain ⟨g, cap, A, c, hv, k1, k2, hcell, HOH⟩ := OR.at_ (HOR.out.below HO.out.2) hlt
      injection hv with hv1 hv2 hv3
      clear hv2
      subst hv1 hv3
      have HSU := Hd.mk (headRows_succ cols heads k hlt)
      have hhk := HHL.out heads[k] (List.getElem_mem _)
      have hcfl := cutF_len heads[k] cols (-1)
      have HCC := Hd.mk (cut_calls w1.heap.size (.slice A heads[k].length c) heads[k] cols (-1) wr HOH.out (Nat.le_trans hw12 HO.out.2.size) hc8 hc200 hhk)
      generalize cutF heads[k] cols (-1) = cr at *
      generalize heads[k] = hd at *
      have hln : (outl.length + cr.1.length) * 24 ≤ 140737488355328 := by
        have : k * 200000 ≤ 1024 * 200000 := Nat.mul_le_mul_right _ (by omega)
        omega
      go_wp2_with (first
        | (go_at_call 37; refine HCC.out.mono ?_; rintro e w3 ⟨v3, rfl, ho3, hb3⟩; have HA := Hd.mk ((HO.out.1.below hb3).below (below_alloc1 w3 (.cells #[.int .i64 cr.2.1, .int .i64 cr.2.2] 27))); have HN := Hd.mk ((ho3.mono HO.out.2.size).below (below_alloc1 w3 (.cells #[.int .i64 cr.2.1, .int .i64 cr.2.2] 27)))
           have HBN := Hd.mk (below_next (below_next HO.out.2 hb3) (below_alloc1 w3 (.cells #[.int .i64 cr.2.1, .int .i64 cr.2.2] 27))); obtain ⟨A3, c3, rfl⟩ := ho3.slice; clear ho3 hb3)
        | (at_builtin; obtain ⟨vs, o1, o2⟩ := HA.out; obtain ⟨us, p1, p2⟩ := HN.out; have hul := p2.length; refine app_rd rfl (.tmp 43) (.tmp 44) 25 35 _ 1 24 rfl Tryd.underlying25 Tryd.info35 rfl (by decide) (by decide) w2.heap.size _ _ outl.length cr.1.length vs us rfl rfl (own_rd p1) (by omega) (slice_one p2) o1 HBN.out.size hln ?_; intro v4 w4 hown4 hgr4 hat4; have HO4 := Hd.mk (And.intro (OR.grown o1 o2 p2 hgr4 hown4 rfl rfl) (HBN.out.grown hgr4 HBN.out.size (fun j hj => (own_lt o1 j hj).1))); clear o1 o2 p1 p2 hul hown4 hgr4 hat4))
      go_roundg (gk - 1)
      case measure => omega
      case rel => exact ⟨k + 1, outl ++ cr.1, by omega, by go_num, by rw [List.length_append]; omega, ⟨by rw [HSU.out, HF.out]⟩, HO4⟩
    · have hkk : k = heads.length := by omega
      subst hkk
      rw [List.take_length] at HF
      have hol2 : outl.length ≤ 1024 * 200000 := Nat.le_trans hol (Nat.mul_le_mul_right _ hhl)
      clear hk hlt hol
      obtain ⟨Ao, co, rfl⟩ := HO.out.1.slice
      have HOCr := Hd.mk (HOC.out.below HO.out.2)
      have hBr := HO.out.2.size
      cases across with
      | true =>
        have hln : (outl.length + 1) * 24 ≤ 140737488355328 := by omega
        go_wp2_with fail
        refine (across_calls w1.heap.size _ cells cols at_ wr HOCr.out (by omega) hc8 hc200 hc2 hc1).mono ?_
        rintro e w3 ⟨v3, rfl, ho3, hb3⟩
        have HS3 := Hd.mk (HSr.out.below hb3)
        have HA3 := Hd.mk (HO.out.1.below hb3)
        have HB3 := Hd.mk (below_next HO.out.2 hb3)
        have HN3 := Hd.mk ho3
        obtain ⟨A3, c3, rfl⟩ := own_slice ho3
        clear ho3 hb3
        have HBW := Hd.mk (below_next HB2.out HB3.out)
        obtain ⟨vs, o1, o2⟩ := HA3.out.mono hw12
        have HO1 := Hd.mk o1
        have HO2 := Hd.mk o2
        have hB13 : w1.heap.size ≤ w3.heap.size := Nat.le_trans hw12 HB3.out.size
        clear o1 o2
        go_wp2_with (at_builtin; refine app_lit rfl (.tmp 57) (.tmp 59) 25 35 _ 1 24 rfl Tryd.underlying25 Tryd.info35 rfl (by decide) (by decide) w1.heap.size _ _ 1 _ _ rfl rfl rfl ?h1 HO1.out hB13 hln ?_)
        case h1 => ((repeat' apply And.intro) <;> rfl)
        intro v4 w4 hown4 hgr4 hat4
        have HO4 := Hd.mk (OR.grown HO1.out HO2.out (vs' := [_]) (ll' := [_]) ⟨HN3.out, trivial⟩ hgr4 hown4 (by simp) (by simp))
        have HS4 := Hd.mk (HS3.out.grown HO1.out hgr4)
        have HB4 := Hd.mk (HBW.out.grown hgr4 HBW.out.size (fun j hj => Nat.le_trans HB1.out.size (own_lt HO1.out j hj).1))
        obtain ⟨r0, r1, r2, r3⟩ := HS4.out.res
        obtain ⟨A4, c4, rfl⟩ := HO4.out.slice
        clear hown4 hgr4 hat4
        go_wp2_with fail
        obtain ⟨q1, q2⟩ := HS4.out.set (.int .i64 outl.length) (.int .i64 (acrossF cells cols at_).2) HO4.out HB4.out (Nat.le_refl _) HB1.out.size
        have hRF : rowsF prompt line point cols true = (outl ++ [(acrossF cells cols at_).1], outl.length, (acrossF cells cols at_).2) := by
          rw [HRF.out, HF.out]; rfl
        rw [hRF]
        exact bodyPost_ret (v := .tuple #[.slice A4 (outl ++ [(acrossF cells cols at_).1]).length c4, .agg #[.int .i64 outl.length, .int .i64 (acrossF cells cols at_).2], .int .i64 0]) (by simp [results, Tryd.results14, go_sem, r0, r1]) rfl ⟨_, rfl, q1, q2⟩
      | false =>
        have hln : (outl.length + (cutF cells cols at_).1.length) * 24 ≤ 140737488355328 := by have := cutF_len cells cols at_; omega
        go_wp2_with fail
        refine (cut_calls w1.heap.size _ cells cols at_ wr HOCr.out (by omega) hc8 hc200 hc1).mono ?_
        rintro e w3 ⟨v3, rfl, ho3, hb3⟩
        have HS3 := Hd.mk ((HSr.out.below hb3).below (below_alloc1 w3 (.cells #[.int .i64 (((cutF cells cols at_).2.1 : Int) + (outl.length : Int)), .int .i64 (cutF cells cols at_).2.2] 27)))
        have HA3 := Hd.mk ((HO.out.1.below hb3).below (below_alloc1 w3 (.cells #[.int .i64 (((cutF cells cols at_).2.1 : Int) + (outl.length : Int)), .int .i64 (cutF cells cols at_).2.2] 27)))
        have HB3 := Hd.mk (below_next (below_next HO.out.2 hb3) (below_alloc1 w3 (.cells #[.int .i64 (((cutF cells cols at_).2.1 : Int) + (outl.length : Int)), .int .i64 (cutF cells cols at_).2.2] 27)))
        have HN3 := Hd.mk (ho3.below (below_alloc1 w3 (.cells #[.int .i64 (((cutF cells cols at_).2.1 : Int) + (outl.length : Int)), .int .i64 (cutF cells cols at_).2.2] 27)))
        obtain ⟨A3, c3, rfl⟩ := ho3.slice
        clear ho3 hb3
        have hwr : wrap64 (((cutF cells cols at_).2.1 : Int) + (outl.length : Int)) = (((cutF cells cols at_).2.1 : Int) + (outl.length : Int)) := by
          have := cutF_len cells cols at_
          have := cutF_row cells cols at_
          unfold wrap64
          omega
        go_upto_region 17 with (fail)
        clear hwr
        have HBW := Hd.mk (below_next HB2.out HB3.out)
        have HHS := Hd.mk (heap_alloc_new w3 (.cells #[.int .i64 (((cutF cells cols at_).2.1 : Int) + (outl.length : Int)), .int .i64 (cutF cells cols at_).2.2] 27))
        generalize hnr : (((cutF cells cols at_).2.1 : Int) + (outl.length : Int)) = nr at *
        generalize hnc : (((cutF cells cols at_).2.2 : Nat) : Int) = nc at *
        have HNR := Hd.mk hnr
        have HNC := Hd.mk hnc
        clear hnr hnc
        generalize w3.alloc (.cells #[.int .i64 nr, .int .i64 nc] 27) = w5 at *
        obtain ⟨vs, o1, o2⟩ := HA3.out.mono hw12
        obtain ⟨us, p1, p2⟩ := HN3.out.mono (Nat.le_trans hw12 hBr)
        have HO1 := Hd.mk (And.intro o1 o2)
        have HP1 := Hd.mk (And.intro p1 p2)
        have HUL := Hd.mk p2.length
        have hB15 : w1.heap.size ≤ w5.heap.size := Nat.le_trans hw12 HB3.out.size
        have e0 : w5.cell? ⟨w3.heap.size, 0, none⟩ = some (.int .i64 nr) := by rw [blk_cell HHS.out]; rfl
        have e1 : w5.cell? ⟨w3.heap.size, 1, none⟩ = some (.int .i64 nc) := by rw [blk_cell HHS.out]; rfl
        obtain ⟨r0, r1, r2, r3⟩ := HS3.out.res
        clear o1 o2 p1 p2
        have hRF : rowsF prompt line point cols false = (outl ++ (cutF cells cols at_).1, (cutF cells cols at_).2.1 + outl.length, (cutF cells cols at_).2.2) := by
          rw [HRF.out, HF.out]; rfl
        have HRF2 := Hd.mk hRF
        clear hRF
        have Q5 : Hd (∀ v4 w4 n xs, w4.ownsRow w1.heap.size 35 1 v4 n xs → w5.drew.grownBy w4 (Value.slice Ao outl.length co).ownBlock → SB w.heap.size (.slice Ap prompt.length cp) (.slice Al line.length cl) point rows cols false w4 ∧
            (n = outl.length + (cutF cells cols at_).1.length → xs = vs ++ us → OR w4 w1.heap.size v4 (outl ++ (cutF cells cols at_).1)) ∧ Below w.heap.size w w4 ∧ w4.heap[w3.heap.size]? = some (.cells #[.int .i64 nr, .int .i64 nc] 27 (0, 0))) :=
          ⟨fun v4 w4 n xs hown4 hgr => have hgr4 : w5.grownBy w4 (Value.slice Ao outl.length co).ownBlock := ⟨hgr.os, hgr.tape, hgr.output, hgr.size, hgr.block⟩; ⟨HS3.out.grown HO1.out.1 hgr4, fun hn hx => OR.grown HO1.out.1 HO1.out.2 HP1.out.2 hgr4 hown4 hn hx, HBW.out.grown hgr4 HBW.out.size (fun j hj => Nat.le_trans HB1.out.size (own_lt HO1.out.1 j hj).1),
            box_touch HHS.out (Touch.of_grown hgr4) (own_not HO1.out.1 HHS.out (by decide))⟩⟩
        go_region_law (refine step_app_rd rfl (.tmp 79) (.tmp 80) 25 35 _ 1 24 rfl Tryd.underlying25 Tryd.info35 rfl (by decide) (by decide) w1.heap.size (.slice Ao outl.length co) (.slice A3 (cutF cells cols at_).1.length c3) outl.length (cutF cells cols at_).1.length vs us rfl rfl (own_rd HP1.out.1) (by rw [HUL.out, Nat.mul_one]) (slice_one HP1.out.2) HO1.out.1 hB15 hln ?_; intro v4 w4 hown4 hgr4 hat4; have HO4 := Hd.mk (Q5.out _ _ _ _ hown4 hgr4 |> fun x => And.intro x.1 (And.intro (x.2.1 rfl rfl) x.2.2)); obtain ⟨r0', r1', r2', r3'⟩ := HO4.out.1.res; obtain ⟨A4, c4, hv4⟩ := own_slice hown4; subst hv4; have e0' : w4.cell? ⟨w3.heap.size, 0, none⟩ = some (.int .i64 nr) := by { rw [blk_cell HO4.out.2.2.2]; rfl }; have e1' : w4.cell? ⟨w3.heap.size, 1, none⟩ = some (.int .i64 nc) := by { rw [blk_cell HO4.out.2.2.2]; rfl }; clear hown4 hgr4 hat4)
        all_goals
          go_wp2_with fail
          obtain ⟨q1, q2⟩ := HO4.out.1.set (.int .i64 nr) (.int .i64 nc) HO4.out.2.1 HO4.out.2.2.1 (Nat.le_refl _) HB1.out.size
          rw [HRF2.out]
          exact bodyPost_ret (v := .tuple #[.slice A4 (outl.length + (cutF cells cols at_).1.length) c4, .agg #[.int .i64 nr, .int .i64 nc], .int .i64 0]) (by simp [results, Tryd.results14, go_sem, r0', r1']) rfl ⟨_, by rw [HNC.out, ← HNR.out]; rfl, by first | exact q1 | exact q1.below (drewN_below _ 1), ⟨q2.os, q2.tape, q2.output, q2.size, q2.block⟩⟩
end Go.Proofs.YthpfhlhoekgpjaaDoor
