/- layout.parts. -/
import Derived.Test.YthpfhlhoekgpjaaDoorG
import Derived.Test.YthpfhlhoekgpjaaDoorB2
import Derived.Deep.RegionHeld3
set_option linter.unusedVariables false
set_option linter.unusedSimpArgs false
namespace Go.Proofs.YthpfhlhoekgpjaaDoor
open Go.RowKit

/-! ### The prompt's parts -/
def splitNL : List Int → List (List Int) × List Int
  | [] => ([], [])
  | r :: t => if r = 10 then ([] :: (splitNL t).1, (splitNL t).2) else
      match (splitNL t).1 with
      | [] => ([], r :: (splitNL t).2)
      | p :: hs => ((r :: p) :: hs, (splitNL t).2)
theorem splitNL_none {l : List Int} (h : ∀ j (hj : j < l.length), l[j] ≠ 10) : splitNL l = ([], l) := by
  induction l with
  | nil => rfl
  | cons r t ih =>
    have h0 := h 0 (by simp)
    simp only [List.getElem_cons_zero] at h0
    rw [splitNL, if_neg h0, ih (fun j hj => by have := h (j + 1) (by simpa using hj); simpa using this)]
theorem splitNL_some {l : List Int} {k : Nat} (hk : k < l.length) (he : l[k] = 10) (h : ∀ j (hj : j < k), l[j]'(by omega) ≠ 10) :
    splitNL l = (l.take k :: (splitNL (l.drop (k + 1))).1, (splitNL (l.drop (k + 1))).2) := by
  induction l generalizing k with
  | nil => simp at hk
  | cons r t ih =>
    cases k with
    | zero =>
      simp only [List.getElem_cons_zero] at he
      rw [splitNL, if_pos he]; simp
    | succ k =>
      have h0 := h 0 (by omega)
      simp only [List.getElem_cons_zero] at h0
      rw [splitNL, if_neg h0, ih (by simpa using hk) (by simpa using he) (fun j hj => by have := h (j + 1) (by omega); simpa using this)]
      simp
theorem idxF_spec (l : List Int) (r : Int) : (idxF l r = -1 ∧ ∀ j (hj : j < l.length), l[j] ≠ r) ∨ ∃ k, ∃ hk : k < l.length, idxF l r = k ∧ l[k] = r ∧ ∀ j (hj : j < k), l[j]'(by omega) ≠ r := by
  unfold idxF
  cases h : l.findIdx? (· == r) with
  | none =>
    rw [List.findIdx?_eq_none_iff] at h
    exact .inl ⟨rfl, fun j hj => by simpa using h l[j] (List.getElem_mem hj)⟩
  | some k =>
    rw [List.findIdx?_eq_some_iff_getElem] at h
    obtain ⟨hk, h1, h2⟩ := h
    exact .inr ⟨k, hk, rfl, by simpa using h1, fun j hj => by simpa using h2 j hj⟩
def backF (all : List Int) : Nat → Nat
  | 0 => 0
  | n + 1 => if joinsF (all.getD (n + 1) 0) = true then backF all n else n + 1
/-- Where the cursor's cell stands among the cells. -/
def curF (all : List Int) (at_ : Nat) : Nat := if all.length ≤ at_ then (cellsF all).length else (cellsF (all.take (backF all at_))).length
theorem RI.take {w : World} {A : Option Addr} {c : Nat} {l : List Int} (h : RI w (.slice A l.length c) l) (n : Nat) (hn : n ≤ l.length) (hc : n ≤ c) : RI w (.slice A n c) (l.take n) := by
  have h1 := Rd.take h 1 n c hn hc (Nat.le_refl _)
  unfold RI
  rw [show (l.take n).length = n by simp; omega, show nums (l.take n) = (nums l).take (n * 1) by simp [nums]]
  exact h1
theorem RI.drop {w : World} {A' : Option Addr} {c : Nat} {l : List Int} (m : Nat) (h : Rd w (.slice A' (l.length - m) (c - m)) (l.length - m) ((nums l).drop (m * 1))) : RI w (.slice A' (l.length - m) (c - m)) (l.drop m) := by
  unfold RI
  rw [List.length_drop, show nums (l.drop m) = (nums l).drop (m * 1) by simp [nums]]
  exact h
theorem blk_cut (A : Option Addr) (n c n' c' : Nat) (C : Prop) [Decidable C] (m : Nat) : ∀ j, blk (.slice (if C then A else A.map (·.add m)) n' c') = some j → blk (.slice A n c) = some j := by
  intro j h
  split at h
  · cases A with
    | none => simp [blk] at h
    | some a => simpa [blk] using h
  · cases A with
    | none => simp [blk] at h
    | some a => simp only [Option.map_some, blk] at h ⊢; unfold Addr.add at h; split at h <;> simpa using h
theorem own_typed {w : World} {base e size n : Nat} {v : Value} {xs : List Value} (h : w.ownsRow base e size v n xs) {k : Nat} (hk : v.ownBlock = some k) : ∃ cur, w.heap[k]? = some (.cells cur e (0, 0)) := by
  rcases h.2 with ⟨rfl, _⟩ | ⟨g, cap, cur, rfl, _, hh, _⟩
  · simp [Value.ownBlock] at hk
  · simp [Value.ownBlock] at hk
    subst hk
    exact ⟨cur, hh⟩
/-- A block of another type than an own row's. -/
theorem own_not {w : World} {base e size n : Nat} {v : Value} {xs : List Value} (h : w.ownsRow base e size v n xs) {k : Nat} {cs : Array Value} {T : TypeId} {f : Nat × Nat} (hk : w.heap[k]? = some (.cells cs T f)) (hne : e ≠ T) : ¬ some k = v.ownBlock := by
  intro e1
  obtain ⟨cur, h1⟩ := own_typed h e1.symm
  rw [hk] at h1
  injection h1 with h1
  injection h1 with _ h2
  exact hne h2.symm
theorem undrew {w w' : World} (h : Below w.drew.heap.size w.drew w') : Below w.heap.size w w' := ⟨h.os, h.tape, h.output, h.size, h.block⟩
theorem blk_cell {w : World} {b : Nat} {cs : Array Value} {T : TypeId} {f : Nat × Nat} (h : w.heap[b]? = some (.cells cs T f)) (i : Nat) : w.cell? ⟨b, i, none⟩ = cs[i]? := by simp [World.cell?, h]

set_option maxRecDepth 100000 in
set_option maxHeartbeats 2000000 in
theorem parts_calls (pv lv : Value) (prompt line : List Int) (point : Nat) (rows cols : Int) (across : Bool) (w : World) (hL : Laid w) (hp : RI w pv prompt) (hl : RI w lv line) (hpn : prompt.length ≤ 1024) (hln : line.length ≤ 1024) (hpt : point ≤ line.length) :
    Calls Tryd.prog 36 #[.agg #[pv, lv, .int .i64 point, .int .i64 rows, .int .i64 cols, .bool across]] w fun e w' =>
      ∃ hv cv, e = .returned (.tuple #[hv, cv, .int .i64 (curF ((splitNL (seenF prompt)).2 ++ line) ((splitNL (seenF prompt)).2.length + point))]) ∧
        OR w' w.heap.size hv ((splitNL (seenF prompt)).1.map cellsF) ∧ OC w' w.heap.size cv (cellsF ((splitNL (seenF prompt)).2 ++ line)) ∧ Below w.heap.size w w' := by
  have HPV := Hd.mk hp
  have HLV := Hd.mk hl
  obtain ⟨Ap, cp, rfl, -⟩ := hp
  obtain ⟨Al, cl, rfl, -⟩ := hl
  have HL := Hd.mk hL
  clear hL
  have hsl := seen_len prompt ([], false)
  have hsl2 : (seenF prompt).length ≤ 1024 := by simp only [List.length_nil] at hsl; unfold seenF; omega
  clear hsl
  have HB0 := Hd.mk (below_alloc1 w (.cells #[.slice Ap prompt.length cp, .slice Al line.length cl, .int .i64 point, .int .i64 rows, .int .i64 cols, .bool across] 24))
  have HX0 := Hd.mk (heap_alloc_new w (.cells #[.slice Ap prompt.length cp, .slice Al line.length cl, .int .i64 point, .int .i64 rows, .int .i64 cols, .bool across] 24))
  go_enter Tryd.func36, Tryd.ntmps36
  go_wp2_with (go_at_call 31; refine (seen_calls _ prompt _ (Rd.below HPV.out HB0.out) (by omega)).mono ?_; rintro e w1 ⟨sv, rfl, so, hb1⟩)
  have HX1 := Hd.mk (box_touch HX0.out (Touch.of_below (S := fun _ => False) hb1) (fun e => e))
  have HB1 := Hd.mk (below_next HB0.out hb1)
  have HSO : Hd (OI w1 w.heap.size sv (seenF prompt)) := ⟨own_mono so (by simp)⟩
  clear so hb1
  have HSP := Hd.mk (rfl : splitNL (seenF prompt) = splitNL (seenF prompt))
  generalize hse : seenF prompt = seen at *
  have HSE := Hd.mk hse
  clear hse
  go_loopg [5, 6] seen.length (fun gk vh vs wr => ∃ (hs : List (List Int)) (rest : List Int), Hd (∀ k, blk vs = some k → vh.ownBlock ≠ some k ∧ k < wr.heap.size) ∧ rest.length ≤ gk ∧ rest.length ≤ 1024 ∧ hs.length + rest.length ≤ 1024 ∧ Hd (splitNL seen = (hs ++ (splitNL rest).1, (splitNL rest).2)) ∧ Hd (RI wr vs rest ∧ OR wr w.heap.size vh (hs.map cellsF) ∧ Below w.heap.size w wr ∧ wr.heap[w.heap.size]? = some (.cells #[.slice Ap prompt.length cp, .slice Al line.length cl, .int .i64 point, .int .i64 rows, .int .i64 cols, .bool across] 24 (0, 0))))
  case atStart => exact ⟨[], seen, ⟨fun k hk => ⟨by simp [Value.ownBlock], (own_lt HSO.out k (by rw [← own_blk HSO.out]; exact hk)).2⟩⟩, Nat.le_refl _, hsl2, by simpa using hsl2, ⟨rfl⟩, ⟨own_rd HSO.out, OR.nil _ _, HB1.out, HX1.out⟩⟩
  case round =>
    obtain ⟨hs, rest, HNE, hg, hr1, hr2, HS, HR⟩ := hrel
    have hRI := HR.out.1
    have HRI := Hd.mk hRI
    obtain ⟨A, c, rfl, h1, h2, h3⟩ := hRI
    clear h3
    rcases idxF_spec rest 10 with ⟨hi, hnone⟩ | ⟨k, hk, hi, he, hbef⟩
    · have HI := Hd.mk hi
      have HN := Hd.mk (splitNL_none hnone)
      clear hi hnone
      go_wp2_with (go_at_call 53; refine (index_calls _ rest 10 _ HRI.out).mono ?_; rw [HI.out]; rintro e w' ⟨rfl, rfl⟩)
      have HLW : Hd (∀ w2 : World, Below wr.heap.size wr w2 → Rd w2 (.slice Al line.length cl) line.length (nums line)) := ⟨fun w2 h => Rd.below HLV.out (below_then HR.out.2.2.1 HR.out.2.2.1.size h)⟩
      have hcl : wr.cell? ⟨w.heap.size, 1, none⟩ = some (.slice Al line.length cl) := by rw [blk_cell HR.out.2.2.2]; rfl
      have hb4 : (rest.length + line.length) * 4 ≤ 140737488355328 := by omega
      have hd1 : 0 < 1 := by decide
      have hd4 : 0 < 4 := by decide
      have hnl : (nums line).length = line.length * 1 := by simp [nums]
      have hr4 : rest.length * 4 ≤ 140737488355328 := by omega
      go_region_held3 (fun w' => w'.cell? ⟨w.heap.size, 1, none⟩ = some (.slice Al line.length cl)) (first | exact below_cell hb3 hcl | exact below_cell hb2 hcl | go_keep)
        (first
          | ((refine step_app_rd rfl (.tmp 30) (.tmp 32) 22 21 _ 1 4 rfl Tryd.underlying22 Tryd.info21 rfl hd1 hd4 wr.heap.size _ _ rest.length line.length (nums rest) (nums line) rfl rfl (HLW.out _ hb2) hnl (nums_one line) oc hb2.size hb4 ?_); intro v3 w3 hown3 hgr3 hat3; have hb3 : Below wr.heap.size wr w3 := hb2.grown hgr3 hb2.size (fun j hj => (own_lt oc j hj).1))
          | (go_at_call 18; refine (clone_calls _ rest _ (by exact HRI.out) hr4).mono ?_; rintro e w2 ⟨cv, rfl, oc, hb2⟩; replace hb2 := undrew hb2))
      have HO3 := Hd.mk (OI.mk (l := rest ++ line) hown3 (by simp) (by simp [nums]))
      have HL3 : Hd (Laid w3) := ⟨HL.out.step (below_then HR.out.2.2.1 HR.out.2.2.1.size hb3)⟩
      have HBX3 := Hd.mk (box_touch HR.out.2.2.2 (Touch.of_below (S := fun _ => False) hb3) (fun e => e))
      have HOR3 := Hd.mk (HR.out.2.1.below hb3)
      have HB3 := Hd.mk (below_then HR.out.2.2.1 HR.out.2.2.1.size hb3)
      have g2 : w3.cell? ⟨w.heap.size, 2, none⟩ = some (.int .i64 point) := by rw [blk_cell HBX3.out]; rfl
      have HF : Hd (splitNL seen = (hs, rest)) := ⟨by rw [HS.out, HN.out]; simp⟩
      have HRI3 := Hd.mk (own_rd HO3.out)
      have hHO3 := HRI3.out
      obtain ⟨A3, c3, rfl, hc3, hm3, -⟩ := hHO3
      have hBw : w.heap.size ≤ wr.heap.size := HR.out.2.2.1.size
      have hwr3 : wr.heap.size ≤ w3.heap.size := hb3.size
      have hall : (rest ++ line).length ≤ 1000000 := by simp; omega
      clear hown3 hgr3 hat3 hb2 hb3 oc hcl hd1 hd4 hnl
      have hal : (rest ++ line).length = rest.length + line.length := by simp
      have HAL := Hd.mk hal
      clear hal
      generalize hall2 : rest ++ line = all at *
      have HALL := Hd.mk hall2
      clear hall2
      go_wp2_with fail
      refine (cells_calls _ all w3 HL3.out HRI3.out hall).mono ?_
      rintro e w4 ⟨cvv, rfl, oc4, hb4x⟩
      have HO4 := Hd.mk oc4
      have HB4 := Hd.mk (below_then HB3.out HB3.out.size hb4x)
      have HL4 := Hd.mk (HL3.out.step hb4x)
      have HRI4 := Hd.mk (Rd.below HRI3.out hb4x)
      have HOR4 := Hd.mk (HOR3.out.below hb4x)
      have hw34 : w3.heap.size ≤ w4.heap.size := hb4x.size
      obtain ⟨A4, c4, rfl⟩ := own_slice oc4
      clear oc4 hb4x g2
      by_cases hge : all.length ≤ rest.length + point
      · have HC : Hd (curF all (rest.length + point) = (cellsF all).length) := ⟨by rw [curF, if_pos hge]⟩
        go_wp2_with fail
        go_ret3
        rw [HSE.out, HF.out, HALL.out, HC.out]
        exact ⟨_, _, rfl, HOR4.out, HO4.out.mono (Nat.le_trans hBw hwr3), HB4.out⟩
      · have HC : Hd (curF all (rest.length + point) = (cellsF (all.take (backF all (rest.length + point)))).length) := ⟨by rw [curF, if_neg hge]⟩
        have hlt : rest.length + point < all.length := by omega
        clear hge
        go_wp2_with fail
        go_loopg [9] (rest.length + point) (fun gk i wr => ∃ n : Nat, n ≤ gk ∧ n ≤ rest.length + point ∧ i = .int .i64 n ∧ Hd (backF all (rest.length + point) = backF all n) ∧ Hd (Below w4.heap.size w4 wr))
        case atStart => exact ⟨rest.length + point, Nat.le_refl _, Nat.le_refl _, by go_num, ⟨rfl⟩, ⟨Below.refl _ _⟩⟩
        case round =>
          obtain ⟨n, hn1, hn2, rfl, HBK, HBR⟩ := hrel
          have hn3 : n < all.length := by omega
          obtain ⟨b, o, c', hv, h1', h2', h3', hcell⟩ := RI.at_ (Rd.below HRI4.out HBR.out) hn3
          injection hv with hv1 hv2 hv3
          subst hv1 hv3
          have g0 := hcell n hn3
          clear hcell
          have HL5 : Hd (Laid wr) := ⟨HL4.out.step HBR.out⟩
          by_cases hz : 0 < n
          · cases hj : joinsF all[n] with
            | true =>
              have HJ := Hd.mk (show backF all n = backF all (n - 1) by
                obtain ⟨m, rfl⟩ : ∃ m, n = m + 1 := ⟨n - 1, by omega⟩
                simp [backF, List.getD, hn3, hj])
              go_wp2_with (go_at_call 54; refine (joins_calls _ _ HL5.out).mono ?_; rw [hj]; rintro e w6 ⟨rfl, hb6⟩)
              go_roundg (n - 1)
              case measure => omega
              case rel => exact ⟨n - 1, Nat.le_refl _, by omega, by go_num, ⟨by rw [HBK.out, HJ.out]⟩, ⟨below_next HBR.out hb6⟩⟩
            | false =>
              have HJ := Hd.mk (show backF all n = n by
                obtain ⟨m, rfl⟩ : ∃ m, n = m + 1 := ⟨n - 1, by omega⟩
                simp [backF, List.getD, hn3, hj])
              go_wp2_with (go_at_call 54; refine (joins_calls _ _ HL5.out).mono ?_; rw [hj]; rintro e w6 ⟨rfl, hb6⟩)
              have HBX := Hd.mk (below_next HBR.out hb6)
              have LX : Hd (Laid w6) := ⟨HL5.out.step hb6⟩
              refine (cells_calls _ (all.take n) w6 LX.out (RI.take (Rd.below (Rd.below HRI4.out HBR.out) hb6) n (by omega) (by omega)) (by simp; omega)).mono ?_
              rintro e w7 ⟨cv7, rfl, oc7, hb7⟩
              have hbx : Below w4.heap.size w4 w7 := below_next HBX.out hb7
              have HB7 := Hd.mk hbx
              have HO7 := Hd.mk oc7
              obtain ⟨A7, c7, rfl⟩ := own_slice oc7
              clear oc7 hb7 hbx
              go_wp2_with fail
              go_ret3
              rw [HSE.out, HF.out, HALL.out, HC.out, HBK.out, HJ.out]
              exact ⟨_, _, rfl, HOR4.out.below HB7.out, (HO4.out.mono (Nat.le_trans hBw hwr3)).below HB7.out, below_then HB4.out HB4.out.size HB7.out⟩
          · obtain rfl : n = 0 := by omega
            go_wp2_with fail
            have HBX := HBR
            have HJ := Hd.mk (show backF all 0 = 0 by rfl)
            refine (cells_calls _ (all.take 0) wr HL5.out (RI.take (Rd.below HRI4.out HBR.out) 0 (by omega) (by omega)) (by simp <;> omega)).mono ?_
            rintro e w7 ⟨cv7, rfl, oc7, hb7⟩
            have hbx : Below w4.heap.size w4 w7 := below_next HBX.out hb7
            have HB7 := Hd.mk hbx
            have HO7 := Hd.mk oc7
            obtain ⟨A7, c7, rfl⟩ := own_slice oc7
            clear oc7 hb7 hbx
            go_wp2_with fail
            go_ret3
            rw [HSE.out, HF.out, HALL.out, HC.out, HBK.out, HJ.out]
            exact ⟨_, _, rfl, HOR4.out.below HB7.out, (HO4.out.mono (Nat.le_trans hBw hwr3)).below HB7.out, below_then HB4.out HB4.out.size HB7.out⟩
    · have HI := Hd.mk hi
      have HN := Hd.mk (splitNL_some hk he hbef)
      clear hi he hbef
      have hk2 : (rest.take k).length ≤ 1000000 := by simp; omega
      have hk3 : (rest.take k).length = k := by simp; omega
      have HRK := Hd.mk (RI.take HRI.out k (by omega) (by omega))
      have HLR : Hd (Laid wr) := ⟨HL.out.step HR.out.2.2.1⟩
      obtain ⟨A', hcut, HD⟩ : ∃ A', (∀ W : World, (Instr.slice 22 (.slice A rest.length c) (some (.int .i64 ((k : Int) + 1))) none none).run Tryd.prog W = .ok (.slice A' (rest.length - (k + 1)) (c - (k + 1))) W) ∧ Hd (RI wr (.slice A' (rest.length - (k + 1)) (c - (k + 1))) (rest.drop (k + 1)) ∧ ∀ j, blk (.slice A' (rest.length - (k + 1)) (c - (k + 1))) = some j → blk (.slice A rest.length c) = some j) :=
        ⟨if c = k + 1 then A else A.map (·.add ((k + 1) * 1)), fun W => by have := cut_from (P := Tryd.prog) 22 21 .i64 _ 1 4 Tryd.underlying22 Tryd.info21 A rest.length c (k + 1) (by omega) W; simpa using this, ⟨RI.drop _ (Rd.drop HRI.out 1 (k + 1) (by omega) (by simp [nums])), blk_cut A rest.length c _ _ _ _⟩⟩
      go_wp2_with (go_at_call 53; refine (index_calls _ rest 10 _ HRI.out).mono ?_; rw [HI.out]; rintro e w' ⟨rfl, rfl⟩)
      go_wp2_with fail
      refine (cells_calls _ (rest.take k) wr HLR.out HRK.out hk2).mono ?_
      rintro e w2 ⟨cv, rfl, oc, hb2⟩
      obtain ⟨vs, o1, o2⟩ := HR.out.2.1.below hb2
      have HO1 := Hd.mk o1
      have HO2 := Hd.mk o2
      have HOC : Hd (OC w2 w.heap.size cv (cellsF (rest.take k))) := ⟨oc.mono HR.out.2.2.1.size⟩
      have HB2 := Hd.mk (below_then HR.out.2.2.1 HR.out.2.2.1.size hb2)
      have hBs := HB2.out.size
      have HBL := Hd.mk hb2
      have hsz : ((hs.map cellsF).length + 1) * 24 ≤ 140737488355328 := by simp; omega
      obtain ⟨A2, c2, rfl⟩ := own_slice oc
      clear o1 o2 oc hb2
      go_wp2_with (at_builtin; refine app_lit rfl (.tmp 18) (.tmp 23) 25 35 _ 1 24 rfl Tryd.underlying25 Tryd.info35 rfl (by decide) (by decide) w.heap.size _ _ 1 _ _ rfl rfl rfl ?h1 HO1.out hBs hsz ?_)
      case h1 => ((repeat' apply And.intro) <;> rfl)
      intro v3 w3 hown3 hgr3 hat3
      have HG3 : Hd (OR w3 w.heap.size v3 (hs.map cellsF ++ [cellsF (rest.take k)])) := ⟨OR.grown HO1.out HO2.out (vs' := [_]) (ll' := [_]) ⟨HOC.out, trivial⟩ hgr3 hown3 (by simp) (by simp)⟩
      have HT3 := Hd.mk (And.intro (Touch.of_grown hgr3) hat3)
      have HB3 := Hd.mk (HB2.out.grown hgr3 hBs (fun j hj => (own_lt HO1.out j hj).1))
      clear hown3 hgr3 hat3
      go_wp2_with fail
      go_roundg (gk - (k + 1))
      case measure => omega
      case rel =>
        refine ⟨hs ++ [rest.take k], rest.drop (k + 1), ⟨?_⟩, by simp; omega, by simp; omega, by simp; omega, ⟨by rw [HS.out, HN.out]; simp⟩, ⟨?_, by simpa using HG3.out, HB3.out, ?_⟩⟩
        · intro j hj
          obtain ⟨n1, n2⟩ := HNE.out j (HD.out.2 j hj)
          have hz := HBL.out.size
          refine ⟨?_, Nat.lt_of_lt_of_le n2 (Nat.le_trans hz HT3.out.1.size)⟩
          rcases HT3.out.2 with e | ⟨g, e, hg⟩
          · rw [e]; exact n1
          · rw [e]; intro h; injection h with h; omega
        · refine Rd.touch (Rd.below HD.out.1 HBL.out) HT3.out.1 ?_
          intro j hj e
          exact (HNE.out j (HD.out.2 j hj)).1 e.symm
        · exact box_touch (box_touch HR.out.2.2.2 (Touch.of_below (S := fun _ => False) HBL.out) (fun e => e)) HT3.out.1 (own_not HO1.out (box_touch HR.out.2.2.2 (Touch.of_below (S := fun _ => False) HBL.out) (fun e => e)) (by decide))
end Go.Proofs.YthpfhlhoekgpjaaDoor
