/- layout.Render. -/
import Derived.Test.YthpfhlhoekgpjaaDoorP
set_option linter.unusedVariables false
set_option linter.unusedSimpArgs false
namespace Go.Proofs.YthpfhlhoekgpjaaDoor
open Go.RowKit

/-! ### Where the cursor's row stands -/
theorem placeF_row (out : List (List Cell)) (cells : List Cell) (cols at_ : Nat) (across : Bool) : (placeF out cells cols at_ across).2.1 < (placeF out cells cols at_ across).1.length := by
  cases across with
  | true => simp [placeF]
  | false =>
    have := cutF_row cells cols at_
    simp only [placeF, List.length_append]
    simp
    omega
theorem rowsF_row (prompt line : List Int) (point cols : Nat) (across : Bool) : (rowsF prompt line point cols across).2.1 < (rowsF prompt line point cols across).1.length := placeF_row _ _ _ _ _
theorem headRows_len (cols : Nat) : ∀ heads : List (List Cell), (∀ h ∈ heads, h.length ≤ 8192) → (headRows cols heads).length ≤ heads.length * 8194
  | [], _ => by simp [headRows]
  | h :: hs, hh => by
    have ih := headRows_len cols hs (fun x hx => hh x (List.mem_cons_of_mem _ hx))
    have := cutF_len h cols (-1)
    have := hh h (List.mem_cons_self ..)
    simp only [headRows, List.flatMap_cons, List.length_append, List.length_cons] at ih ⊢
    omega
theorem rowsF_len (prompt line : List Int) (point cols : Nat) (across : Bool) (hp : prompt.length ≤ 1024) (hl : line.length ≤ 1024) : (rowsF prompt line point cols across).1.length ≤ 100000000 := by
  have h1 := seen_len prompt ([], false)
  have h2 : (seenF prompt).length ≤ 1024 := by simp only [List.length_nil] at h1; unfold seenF; omega
  obtain ⟨h3, h4, h5⟩ := splitNL_len (seenF prompt)
  have h6 : (headRows cols ((splitNL (seenF prompt)).1.map cellsF)).length ≤ 1024 * 8194 := by
    refine Nat.le_trans (headRows_len cols _ ?_) (Nat.mul_le_mul_right _ (by rw [List.length_map]; omega))
    intro h hh
    obtain ⟨l, hl, rfl⟩ := List.mem_map.1 hh
    have := h5 l hl
    have := cellsF_len l
    omega
  have h7 := cellsF_len ((splitNL (seenF prompt)).2 ++ line)
  rw [List.length_append] at h7
  unfold rowsF
  cases across with
  | true => simp only [placeF, if_true, List.length_append, List.length_singleton]; omega
  | false =>
    have h8 := cutF_len (cellsF ((splitNL (seenF prompt)).2 ++ line)) cols (curF ((splitNL (seenF prompt)).2 ++ line) ((splitNL (seenF prompt)).2.length + point))
    simp only [placeF, List.length_append]
    simp only [Bool.false_eq_true, if_false, List.length_append]
    omega
/-! ### No row is wider than the screen -/
theorem cutPre_wide (cols : Nat) (hc : 0 < cols) (done : List (List Cell)) (cur : List Cell) (c : Cell) (h1 : ∀ r ∈ done, r.length ≤ cols) (h2 : cur.length ≤ cols) : (∀ r ∈ (cutPre cols done cur c).1, r.length ≤ cols) ∧ (cutPre cols done cur c).2.length < cols := by
  have h3 : (if c.wd = 2 ∧ cur.length + 1 = cols then cur ++ [blankC] else cur).length ≤ cols := by split <;> (try simp) <;> omega
  simp only [cutPre]
  generalize (if c.wd = 2 ∧ cur.length + 1 = cols then cur ++ [blankC] else cur) = z at *
  split
  · refine ⟨?_, hc⟩
    intro r hr
    rcases List.mem_append.1 hr with hr | hr
    · exact h1 r hr
    · rw [List.mem_singleton.1 hr]; exact h3
  · exact ⟨h1, by simp only; omega⟩
theorem cutRun_wide (cols : Nat) (hc : 0 < cols) (cursor : Int) (cells : List Cell) : ∀ k, k ≤ cells.length → (∀ r ∈ (cutRun cols cursor cells k).done, r.length ≤ cols) ∧ (cutRun cols cursor cells k).cur.length ≤ cols
  | 0, _ => by simp [cutRun]
  | k + 1, h => by
    obtain ⟨h1, h2⟩ := cutRun_wide cols hc cursor cells k (by omega)
    rw [cutRun_succ _ _ _ _ (by omega)]
    obtain ⟨h3, h4⟩ := cutPre_wide cols hc _ _ cells[k] h1 h2
    exact ⟨h3, by simp only [cutStep, List.length_append, List.length_singleton]; omega⟩
theorem cutF_wide (cells : List Cell) (cols : Nat) (hc : 0 < cols) (cursor : Int) : ∀ r ∈ (cutF cells cols cursor).1, r.length ≤ cols := by
  obtain ⟨h1, h2⟩ := cutRun_wide cols hc cursor cells cells.length (Nat.le_refl _)
  intro r hr
  simp only [cutF] at hr
  split at hr
  · split at hr
    · rcases List.mem_append.1 hr with hr | hr
      · exact h1 r hr
      · rcases List.mem_cons.1 hr with rfl | hr
        · exact h2
        · rw [List.mem_singleton.1 hr]; simp
    · rcases List.mem_append.1 hr with hr | hr
      · exact h1 r hr
      · rw [List.mem_singleton.1 hr]; exact h2
  · rcases List.mem_append.1 hr with hr | hr
    · exact h1 r hr
    · rw [List.mem_singleton.1 hr]; exact h2
theorem acrossF_wide (cells : List Cell) (cols at_ : Nat) : (acrossF cells cols at_).1.length ≤ cols := by
  by_cases hm : cells.length + (if at_ = cells.length then 1 else 0) ≤ cols
  · rw [acrossF, if_pos hm]
    have : cells.length ≤ cells.length + (if at_ = cells.length then 1 else 0) := Nat.le_add_right _ _
    exact Nat.le_trans this hm
  · rw [acrossF, if_neg hm]
    simp only [loneF_len]
    split <;> split <;> simp only [List.length_set, loneF_len, List.length_drop, List.length_take] <;> omega
theorem rowsF_wide (prompt line : List Int) (point cols : Nat) (across : Bool) (hc : 0 < cols) : ∀ r ∈ (rowsF prompt line point cols across).1, r.length ≤ cols := by
  have hh : ∀ r ∈ headRows cols ((splitNL (seenF prompt)).1.map cellsF), r.length ≤ cols := by
    intro r hr
    obtain ⟨h, _, hr⟩ := List.mem_flatMap.1 hr
    exact cutF_wide _ _ hc _ r hr
  intro r hr
  unfold rowsF at hr
  generalize headRows cols ((splitNL (seenF prompt)).1.map cellsF) = out at *
  cases across with
  | true =>
    simp only [placeF, if_true] at hr
    rcases List.mem_append.1 hr with hr | hr
    · exact hh r hr
    · rw [List.mem_singleton.1 hr]; exact acrossF_wide _ _ _
  | false =>
    simp only [placeF, Bool.false_eq_true, if_false] at hr
    rcases List.mem_append.1 hr with hr | hr
    · exact hh r hr
    · exact cutF_wide _ _ hc _ r hr
theorem cut_mid {P : Program} (t e : TypeId) (kl kh : IntKind) (z : Value) (sz bytes : Nat) (ht : P.underlying t = some (.slice e)) (hinfo : (P.info? e).map (fun i => (i.zero, i.size, i.bytes)) = some (some z, sz, bytes)) (g n c l m : Nat) (hl : l ≤ m) (hm : m ≤ c) (hlc : l < c) :
    ∀ W : World, (Instr.slice t (.slice (some ⟨g, 0, none⟩) n c) (some (.int kl (l : Int))) (some (.int kh (m : Int))) none).run P W = .ok (.slice (some ⟨g, l * sz, none⟩) (m - l) (c - l)) W := by
  intro W
  obtain ⟨i0, hi, hzz⟩ := Option.map_eq_some_iff.1 hinfo
  simp only [Prod.mk.injEq] at hzz
  have hel : P.elem t = e := by simp [Program.elem, ht]
  have hu : P.underlying t = some (.slice (P.elem t)) := by rw [hel]; exact ht
  rw [run_slice_lh W t (some ⟨g, 0, none⟩) n c hu kl kh (l : Int) (m : Int) (Int.natCast_nonneg _) (by omega) (by omega), hel]
  simp [sizeOf, typeInfo, hi, hzz.2.1, sliced, Result.andThen, Nat.ne_of_gt hlc, Addr.add]
  intro h
  exact h.symm
def aboveF (row rows : Nat) : Nat := row + 1 - rows
def frameF (R : List (List Cell) × Nat × Nat) (rows : Nat) : List (List Cell) × Nat × Nat × Nat :=
  (((R.1.take (min (aboveF R.2.1 rows + rows) R.1.length)).drop (aboveF R.2.1 rows)).map trimF, R.2.1 - aboveF R.2.1 rows, R.2.2, aboveF R.2.1 rows)
def renderF (prompt line : List Int) (point rows cols : Nat) (across : Bool) : List (List Cell) × Nat × Nat × Nat := frameF (rowsF prompt line point cols across) rows

/-- Where the loop of Render stands: the frame's box at k0. -/
def FS (w2 : World) (k0 B : Nat) (r c a : Int) (outl : List (List Cell)) (vo : Value) (wr : World) : Prop :=
  OR wr B vo outl ∧ Below k0 w2 wr ∧ wr.heap[k0]? = some (.cells #[vo, .int .i64 r, .int .i64 c, .int .i64 a] 29 (0, 0)) ∧ B ≤ wr.heap.size
theorem four_set {w : World} {b : Nat} {v x y z v' : Value} {T : TypeId} (h : w.heap[b]? = some (.cells #[v, x, y, z] T (0, 0))) : (w.setCell ⟨b, 0, none⟩ v').heap[b]? = some (.cells #[v', x, y, z] T (0, 0)) := by
  simp [World.setCell, Array.getElem?_modify, h]
theorem one_sl (A : Option Addr) (n c : Nat) : ∀ u ∈ (#[Value.slice A n c] : Array Value).toList, u.oneCell' = true := by
  intro u hu
  rcases List.mem_singleton.1 hu with rfl
  rfl
theorem FS.step {w2 wr w4 : World} {k0 B : Nat} {r c a : Int} {outl : List (List Cell)} {vo v4 : Value} {d : List Cell} (h : FS w2 k0 B r c a outl vo wr) (hB : k0 ≤ B) (ho : OC w4 wr.heap.size v4 d) (hb : Below wr.heap.size wr w4) :
    ∃ vs, (w4.alloc (.cells #[v4] 35)).ownsRow B 35 1 vo outl.length vs ∧ B ≤ (w4.alloc (.cells #[v4] 35)).heap.size ∧
      ∀ v5 w5, w5.ownsRow B 35 1 v5 (outl.length + 1) (vs ++ [v4]) → (w4.alloc (.cells #[v4] 35)).grownBy w5 vo.ownBlock →
        w5.cell? ⟨k0, 0, none⟩ = some vo ∧ w5.frozen? ⟨k0, 0, none⟩ = false ∧ FS w2 k0 B r c a (outl ++ [d]) v5 (w5.setCell ⟨k0, 0, none⟩ v5) := by
  obtain ⟨h1, h2, h3, h4⟩ := h
  have bb := below_next hb (below_alloc1 w4 (.cells #[v4] 35))
  obtain ⟨vs, o1, o2⟩ := h1.below bb
  have h5 := box_touch h3 (Touch.of_below (S := fun _ => False) bb) id
  refine ⟨vs, o1, Nat.le_trans h4 bb.size, ?_⟩
  intro v5 w5 hown hgr
  have hx := box_touch h5 (Touch.of_grown hgr) (own_not o1 h5 (by decide))
  have hor : OR w5 B v5 (outl ++ [d]) := OR.grown o1 o2 (vs' := [v4]) (ll' := [d]) ⟨(ho.mono h4).below (below_alloc1 w4 _), trivial⟩ hgr hown (by simp) rfl
  have hk := box_lt h3
  refine ⟨by rw [blk_cell hx]; rfl, blk_froz hx _, hor.touch ((Touch.refl (fun j => j = k0) w5).setCell ⟨k0, 0, none⟩ v5 rfl) hx (by decide) (by decide), ?_, four_set hx, ?_⟩
  · have hb5 : Below k0 w2 w5 := (h2.trans (bb.mono (by omega))).grown hgr (by have := bb.size; omega) (fun j hj => Nat.le_trans hB (own_lt o1 j hj).1)
    exact hb5.setCell (p := ⟨k0, 0, none⟩) (Nat.le_refl _) v5
  · have := (Touch.of_grown hgr).size
    have := bb.size
    simp
    omega

set_option maxRecDepth 100000 in
set_option maxHeartbeats 4000000 in
theorem render_calls (pv lv : Value) (prompt line : List Int) (point rows cols : Nat) (across : Bool) (w : World) (hL : Laid w) (hp : RI w pv prompt) (hl : RI w lv line) (hck : checkF prompt.length line.length point rows cols = 0) :
    Calls Tryd.prog 10 #[.agg #[pv, lv, .int .i64 point, .int .i64 rows, .int .i64 cols, .bool across]] w fun e w' =>
      ∃ v', e = .returned (.tuple #[.agg #[v', .int .i64 (renderF prompt line point rows cols across).2.1, .int .i64 (renderF prompt line point rows cols across).2.2.1, .int .i64 (renderF prompt line point rows cols across).2.2.2], .int .i64 0]) ∧
        OR w' w.heap.size v' (renderF prompt line point rows cols across).1 ∧ Below w.heap.size w w' := by
  have hb : 2 ≤ rows ∧ rows ≤ 60 ∧ 8 ≤ cols ∧ cols ≤ 200 ∧ prompt.length ≤ 1024 ∧ line.length ≤ 1024 ∧ point ≤ line.length := by
    unfold checkF at hck
    repeat' split at hck
    all_goals omega
  obtain ⟨hr2, hr60, hc8, hc200, hpn, hln, hpt⟩ := hb
  have hlen := rowsF_len prompt line point cols across hpn hln
  have hrow := rowsF_row prompt line point cols across
  have HWI := Hd.mk (rowsF_wide prompt line point cols across (by omega))
  have HRC := Hd.mk (fun wx (hb : Below w.heap.size w wx) => rows_calls pv lv prompt line point rows cols across wx (hL.step hb) (Rd.below hp hb) (Rd.below hl hb) hck)
  have HRN := Hd.mk (show renderF prompt line point rows cols across = frameF (rowsF prompt line point cols across) rows from rfl)
  generalize rowsF prompt line point cols across = R at *
  obtain ⟨Ap, cp, rfl, -⟩ := hp
  obtain ⟨Al, cl, rfl, -⟩ := hl
  clear hL hck
  have HS0 : Hd (((w.alloc (.cells #[.slice Ap prompt.length cp, .slice Al line.length cl, .int .i64 point, .int .i64 rows, .int .i64 cols, .bool across] 24)).alloc (.cells #[.slice none 0 0, .int .i64 0, .int .i64 0, .int .i64 0] 29)).heap[w.heap.size]? = some (.cells #[.slice Ap prompt.length cp, .slice Al line.length cl, .int .i64 point, .int .i64 rows, .int .i64 cols, .bool across] 24 (0, 0)) ∧
    ((w.alloc (.cells #[.slice Ap prompt.length cp, .slice Al line.length cl, .int .i64 point, .int .i64 rows, .int .i64 cols, .bool across] 24)).alloc (.cells #[.slice none 0 0, .int .i64 0, .int .i64 0, .int .i64 0] 29)).heap[w.heap.size + 1]? = some (.cells #[.slice none 0 0, .int .i64 0, .int .i64 0, .int .i64 0] 29 (0, 0))) :=
    ⟨heap_at (heap_alloc_new _ _), by have := heap_alloc_new (w.alloc (.cells #[.slice Ap prompt.length cp, .slice Al line.length cl, .int .i64 point, .int .i64 rows, .int .i64 cols, .bool across] 24)) (.cells #[.slice none 0 0, .int .i64 0, .int .i64 0, .int .i64 0] 29); simpa using this⟩
  have HB0 := Hd.mk (show Below w.heap.size w ((w.alloc (.cells #[.slice Ap prompt.length cp, .slice Al line.length cl, .int .i64 point, .int .i64 rows, .int .i64 cols, .bool across] 24)).alloc (.cells #[.slice none 0 0, .int .i64 0, .int .i64 0, .int .i64 0] 29)) from
    ((Below.refl _ _).alloc (Nat.le_refl _) _).alloc (by simp) _)
  go_enter Tryd.func10, Tryd.ntmps10
  go_wp2_with fail
  generalize (w.alloc (.cells #[.slice Ap prompt.length cp, .slice Al line.length cl, .int .i64 point, .int .i64 rows, .int .i64 cols, .bool across] 24)).alloc (.cells #[.slice none 0 0, .int .i64 0, .int .i64 0, .int .i64 0] 29) = w0 at *
  refine (HRC.out w0 HB0.out).mono ?_
  rintro e w1 ⟨v1, rfl, ho1, hb1⟩
  have HO1 := Hd.mk ho1
  have HB1 := Hd.mk (below_next HB0.out hb1)
  have HS1 := Hd.mk (And.intro (box_touch HS0.out.1 (Touch.of_below (S := fun _ => False) hb1) id) (box_touch HS0.out.2 (Touch.of_below (S := fun _ => False) hb1) id))
  obtain ⟨A1, c1, rfl⟩ := ho1.slice
  clear ho1 hb1
  go_upto_region 4 with (fail)
  have HS2 := Hd.mk (And.intro (heap_at (x := .cells #[.int .i64 R.2.1, .int .i64 R.2.2] 27) HS1.out.1) (heap_at (x := .cells #[.int .i64 R.2.1, .int .i64 R.2.2] 27) HS1.out.2))
  have HX2 := Hd.mk (heap_alloc_new w1 (.cells #[.int .i64 R.2.1, .int .i64 R.2.2] 27))
  have HO2 := Hd.mk (HO1.out.below (below_alloc1 w1 (.cells #[.int .i64 R.2.1, .int .i64 R.2.2] 27)))
  have HB2 := Hd.mk (below_next HB1.out (below_alloc1 w1 (.cells #[.int .i64 R.2.1, .int .i64 R.2.2] 27)))
  generalize w1.alloc (.cells #[.int .i64 R.2.1, .int .i64 R.2.2] 27) = w2 at *
  have y3 : w2.cell? ⟨w.heap.size, 3, none⟩ = some (.int .i64 rows) := by rw [blk_cell HS2.out.1]; rfl
  have x0 : w2.cell? ⟨w1.heap.size, 0, none⟩ = some (.int .i64 R.2.1) := by rw [blk_cell HX2.out]; rfl
  have x1 : w2.cell? ⟨w1.heap.size, 1, none⟩ = some (.int .i64 R.2.2) := by rw [blk_cell HX2.out]; rfl
  have habove : (if (R.2.1 : Int) - (rows : Int) + 1 < 0 then 0 else (R.2.1 : Int) - (rows : Int) + 1) = (aboveF R.2.1 rows : Int) := by unfold aboveF; split <;> omega
  have hab1 : aboveF R.2.1 rows ≤ R.2.1 := by unfold aboveF; omega
  have HFR := Hd.mk (show frameF R rows = (((R.1.take (min (aboveF R.2.1 rows + rows) R.1.length)).drop (aboveF R.2.1 rows)).map trimF, R.2.1 - aboveF R.2.1 rows, R.2.2, aboveF R.2.1 rows) from rfl)
  generalize aboveF R.2.1 rows = ab at *
  go_upto_region 6 with (fail)
  clear habove
  have HS3 := Hd.mk (And.intro (heap_at (x := .cells #[.slice none 0 0, .int .i64 ((R.2.1 : Int) - ab), .int .i64 R.2.2, .int .i64 ab] 29) HS2.out.1) (heap_at (x := .cells #[.slice none 0 0, .int .i64 ((R.2.1 : Int) - ab), .int .i64 R.2.2, .int .i64 ab] 29) HS2.out.2))
  have HX3 := Hd.mk (heap_alloc_new w2 (.cells #[.slice none 0 0, .int .i64 ((R.2.1 : Int) - ab), .int .i64 R.2.2, .int .i64 ab] 29))
  have HO3 := Hd.mk (HO2.out.below (below_alloc1 w2 (.cells #[.slice none 0 0, .int .i64 ((R.2.1 : Int) - ab), .int .i64 R.2.2, .int .i64 ab] 29)))
  have HB3 := Hd.mk (below_next HB2.out (below_alloc1 w2 (.cells #[.slice none 0 0, .int .i64 ((R.2.1 : Int) - ab), .int .i64 R.2.2, .int .i64 ab] 29)))
  have HB23 := Hd.mk (below_alloc1 w2 (.cells #[.slice none 0 0, .int .i64 ((R.2.1 : Int) - ab), .int .i64 R.2.2, .int .i64 ab] 29))
  generalize w2.alloc (.cells #[.slice none 0 0, .int .i64 ((R.2.1 : Int) - ab), .int .i64 R.2.2, .int .i64 ab] 29) = w3 at *
  have z3 : w3.cell? ⟨w.heap.size, 3, none⟩ = some (.int .i64 rows) := by rw [blk_cell HS3.out.1]; rfl
  have z7 : w3.cell? ⟨w2.heap.size, 3, none⟩ = some (.int .i64 ab) := by rw [blk_cell HX3.out]; rfl
  obtain ⟨g1, cap1, _, _, hv, k1, k2, -, -⟩ := OR.at_ HO2.out (show 0 < R.1.length by omega)
  injection hv with hv1 hv2 hv3
  clear hv2
  subst hv1 hv3
  obtain ⟨m, hm⟩ : ∃ m, m = min (ab + rows) R.1.length := ⟨_, rfl⟩
  have hmin : (if (R.1.length : Int) < (ab : Int) + (rows : Int) then (R.1.length : Int) else (ab : Int) + (rows : Int)) = (m : Int) := by rw [hm]; split <;> omega
  have hm1 : ab < m := by omega
  have hm3 : m ≤ ab + rows := by omega
  have hm2 : m ≤ R.1.length := by omega
  rw [← hm] at HFR
  clear hm
  have hsl := cut_mid (P := Tryd.prog) 25 35 .i64 .i64 _ 1 24 Tryd.underlying25 Tryd.info35 g1 R.1.length c1 ab m (by omega) (by omega) (by omega)
  rw [Nat.mul_one] at hsl
  go_wp2_with fail
  clear hmin hsl
  obtain ⟨seg, hseg⟩ : ∃ seg, (R.1.take m).drop ab = seg := ⟨_, rfl⟩
  have hsl : seg.length = m - ab := by rw [← hseg]; simp; omega
  have hsg : ∀ k (hk : k < seg.length), seg[k] = R.1[ab + k]'(by omega) := by
    intro k hk
    subst hseg
    simp
  rw [hseg] at HFR
  have HSG := Hd.mk hsg
  clear hseg hsg
  have hB2 := HB2.out.size
  have hB23 := HB23.out.size
  have hseg2 : seg.length ≤ 60 := by omega
  go_loopg [50] seg.length (fun gk i wr => ∃ (outl : List (List Cell)) (vo : Value), outl.length + gk = seg.length ∧ i = .int .i64 outl.length ∧ Hd ((seg.take outl.length).map trimF = outl) ∧ Hd (FS w2 w2.heap.size w3.heap.size ((R.2.1 : Int) - ab) R.2.2 ab outl vo wr))
  case atStart => exact ⟨[], .slice none 0 0, by simp, rfl, ⟨by simp⟩, ⟨OR.nil _ _, HB23.out, HX3.out, Nat.le_refl _⟩⟩
  case round =>
    obtain ⟨outl, vo, hk, rfl, HF, HW⟩ := hrel
    by_cases hlt : outl.length < seg.length
    · obtain ⟨g, cap, A, c, hv, k1', k2', hcell, HOH⟩ := OR.at_ (HO2.out.below HW.out.2.1) (show ab + outl.length < R.1.length by omega)
      injection hv with hv1 hv2 hv3
      injection hv1 with hv1
      injection hv1 with hv1
      clear hv2 hv3
      subst hv1
      have hdl := HWI.out R.1[ab + outl.length] (List.getElem_mem _)
      have HSK := Hd.mk (show (seg.take (outl.length + 1)).map trimF = (seg.take outl.length).map trimF ++ [trimF R.1[ab + outl.length]] by
        rw [List.take_add_one, List.map_append]
        simp [hlt, HSG.out outl.length hlt])
      generalize R.1[ab + outl.length]'(by omega) = hd at *
      go_upto_region 9 with (fail)
      obtain ⟨Ao, co, rfl⟩ := HW.out.1.slice
      have b0 : wr.cell? ⟨w2.heap.size, 0, none⟩ = some (.slice Ao outl.length co) := by rw [blk_cell HW.out.2.2.1]; rfl
      have HRCd := Hd.mk (OC.rc HOH.out)
      have hln : (outl.length + 1) * 24 ≤ 140737488355328 := by omega
      have hm1 : 1 ≤ maxLen := by unfold maxLen; omega
      have hdl2 : hd.length ≤ 100000 := by omega
      have hd0 : 0 < 1 := by decide
      have hd24 : 0 < 24 := by decide
      go_region_law (first
        | (go_simp; go_at_call 21; refine (trim_calls _ hd _ (by exact HRCd.out) hdl2).mono ?_; rintro e w4 ⟨v4, rfl, ho4, hb4⟩; replace hb4 := undrew hb4; have HST := Hd.mk (HW.out.step hB23 ho4 hb4); have b0' := below_cell hb4 b0; obtain ⟨A4, c4, hv4⟩ := own_slice ho4; subst hv4; have b0x := below_cell (below_alloc1 w4 (.cells #[.slice A4 (trimF hd).length c4] 35)) b0'; clear ho4 hb4)
        | (obtain ⟨vs, o1, o2, o3⟩ := HST.out; refine step_app_rd rfl (.tmp 55) (.tmp 58) 25 35 _ 1 24 rfl Tryd.underlying25 Tryd.info35 rfl hd0 hd24 w3.heap.size (.slice Ao outl.length co) _ outl.length 1 vs _ rfl rfl (rd_lit w4 #[.slice A4 (trimF hd).length c4] 35 1 hm1) rfl (one_sl A4 (trimF hd).length c4) o1 o2 hln ?_; intro v5 w5 hown5 hgr5 hat5; obtain ⟨A5, c5, hv5⟩ := own_slice hown5; subst hv5; obtain ⟨m0, m1, m2⟩ := o3 _ _ hown5 hgr5; have HN := Hd.mk m2; clear hown5 hgr5 hat5 o1 o2 o3 m2))
      all_goals
        go_wp2_with fail
        go_roundg (gk - 1)
        case measure => omega
        case rel => exact ⟨outl ++ [trimF hd], _, by simp; omega, by simp, ⟨by rw [List.length_append, List.length_singleton, HSK.out, HF.out]⟩, HN⟩
    · obtain ⟨Ao, co, rfl⟩ := HW.out.1.slice
      have hq : seg.map trimF = outl := by
        rw [← HF.out, show outl.length = seg.length by omega, List.take_length]
      have HQ := Hd.mk hq
      have HC1 := Hd.mk (show ((R.2.1 - ab : Nat) : Int) = (R.2.1 : Int) - ab from Int.ofNat_sub hab1)
      have HS4 := Hd.mk (box_touch HS2.out.2 (Touch.of_below (S := fun _ => False) HW.out.2.1) id)
      have hb1 := HB2.out.size
      have HBW := Hd.mk (below_next HB2.out HW.out.2.1)
      have hb0 : w.heap.size ≤ w3.heap.size := by omega
      clear hq
      have b0 : wr.cell? ⟨w2.heap.size, 0, none⟩ = some (.slice Ao outl.length co) := by rw [blk_cell HW.out.2.2.1]; rfl
      have b1 : wr.cell? ⟨w2.heap.size, 1, none⟩ = some (.int .i64 ((R.2.1 : Int) - ab)) := by rw [blk_cell HW.out.2.2.1]; rfl
      have b2 : wr.cell? ⟨w2.heap.size, 2, none⟩ = some (.int .i64 R.2.2) := by rw [blk_cell HW.out.2.2.1]; rfl
      have b3 : wr.cell? ⟨w2.heap.size, 3, none⟩ = some (.int .i64 ab) := by rw [blk_cell HW.out.2.2.1]; rfl
      have r0 : wr.cell? ⟨w.heap.size + 1, 0, none⟩ = some (.slice none 0 0) := by rw [blk_cell HS4.out]; rfl
      have r1 : wr.cell? ⟨w.heap.size + 1, 1, none⟩ = some (.int .i64 0) := by rw [blk_cell HS4.out]; rfl
      have r2 : wr.cell? ⟨w.heap.size + 1, 2, none⟩ = some (.int .i64 0) := by rw [blk_cell HS4.out]; rfl
      have r3 : wr.cell? ⟨w.heap.size + 1, 3, none⟩ = some (.int .i64 0) := by rw [blk_cell HS4.out]; rfl
      have f0 : wr.frozen? ⟨w.heap.size + 1, 0, none⟩ = false := blk_froz HS4.out _
      have f1 : wr.frozen? ⟨w.heap.size + 1, 1, none⟩ = false := blk_froz HS4.out _
      have f2 : wr.frozen? ⟨w.heap.size + 1, 2, none⟩ = false := blk_froz HS4.out _
      have f3 : wr.frozen? ⟨w.heap.size + 1, 3, none⟩ = false := blk_froz HS4.out _
      have hne : ¬ w2.heap.size = w.heap.size + 1 := by have := box_lt HS2.out.2; omega
      go_wp2_with fail
      have hT := (((((Touch.refl (fun j => j = w.heap.size + 1) wr).setCell ⟨w.heap.size + 1, 0, none⟩ (.slice Ao outl.length co) rfl).setCell ⟨w.heap.size + 1, 1, none⟩ (.int .i64 ((R.2.1 : Int) - ab)) rfl).setCell ⟨w.heap.size + 1, 2, none⟩ (.int .i64 R.2.2) rfl).setCell ⟨w.heap.size + 1, 3, none⟩ (.int .i64 ab) rfl)
      rw [HRN.out, HFR.out, HQ.out]
      exact bodyPost_ret (v := .tuple #[.agg #[.slice Ao outl.length co, .int .i64 ((R.2.1 : Int) - ab), .int .i64 R.2.2, .int .i64 ab], .int .i64 0]) (by simp [results, Tryd.results10, go_sem, r0, r1, r2, r3]) rfl
        ⟨_, by rw [HC1.out], (HW.out.1.touch hT HS4.out (by decide) (by decide)).mono hb0, HBW.out.trans (hT.below (by intro k hk e; omega) (Nat.le_trans hb0 HW.out.2.2.2))⟩
end Go.Proofs.YthpfhlhoekgpjaaDoor
