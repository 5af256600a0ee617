/- layout.cut's closures: row, next; the state of its run. -/
import Derived.Test.YthpfhlhoekgpjaaDoorI
import Derived.Test.YthpfhlhoekgpjaaDoorH
import Derived.Deep.RegionHeld3
import Derived.Deep.RegionLaw
import Derived.Deep.DeepCutAuto
import Derived.Deep.CutBlock
set_option linter.unusedVariables false
set_option linter.unusedSimpArgs false
namespace Go.Proofs.YthpfhlhoekgpjaaDoor
open Go.RowKit

/-- row(): where the last row's slice stands. -/
theorem row_calls (rb g m cap : Nat) (w : World) (hb : w.cell? ⟨rb, 0, none⟩ = some (.slice (some ⟨g, 0, none⟩) (m + 1) cap)) (hm : m ≤ 1000000) :
    Calls Tryd.prog 55 #[.pointer (some ⟨rb, 0, none⟩)] w fun e w' => e = .returned (.pointer (some ⟨g, m, none⟩)) ∧ w = w' := by
  go_enter Tryd.func55, Tryd.ntmps55
  go_wp2_with fail
  go_ret
  exact ⟨rfl, rfl⟩

/-- The state of cut's run: rb holds the rows; the rows but the last, the last. -/
structure CSt (w0 : World) (B rb g cap : Nat) (vsd : List Value) (vc : Value) (done : List (List Cell)) (cur : List Cell) (Bc : Nat) (w : World) : Prop where
  box : w.heap[rb]? = some (.cells #[.slice (some ⟨g, 0, none⟩) (done.length + 1) cap] 25 (0, 0))
  own : w.ownsRow B 35 1 (.slice (some ⟨g, 0, none⟩) (done.length + 1) cap) (done.length + 1) (vsd ++ [vc])
  dn : All2 (fun v l => OC w B v l ∧ ∀ k, v.ownBlock = some k → k < Bc) vsd done
  cu : OC w Bc vc cur
  lB : B ≤ Bc
  lw : Bc ≤ w.heap.size
  bel : Below B w0 w
  ge : B ≤ rb
theorem CSt.len {w0 : World} {B rb g cap : Nat} {vsd : List Value} {vc : Value} {done : List (List Cell)} {cur : List Cell} {Bc : Nat} {w : World} (h : CSt w0 B rb g cap vsd vc done cur Bc w) : vsd.length = done.length := h.dn.length
theorem CSt.below {w0 : World} {B rb g cap : Nat} {vsd : List Value} {vc : Value} {done : List (List Cell)} {cur : List Cell} {Bc : Nat} {w w' : World} (h : CSt w0 B rb g cap vsd vc done cur Bc w) (hb : Below w.heap.size w w') : CSt w0 B rb g cap vsd vc done cur Bc w' :=
  ⟨box_touch h.box (Touch.of_below (S := fun _ => False) hb) (fun e => e), below_own h.own hb, h.dn.imp (fun _ _ x => ⟨x.1.below hb, x.2⟩), h.cu.below hb, h.lB, Nat.le_trans h.lw hb.size, below_then h.bel (Nat.le_trans h.lB h.lw) hb, h.ge⟩
/-- The place of the last row's slice. -/
theorem CSt.last {w0 : World} {B rb g cap : Nat} {vsd : List Value} {vc : Value} {done : List (List Cell)} {cur : List Cell} {Bc : Nat} {w : World} (h : CSt w0 B rb g cap vsd vc done cur Bc w) : w.cell? ⟨g, done.length, none⟩ = some vc ∧ w.frozen? ⟨g, done.length, none⟩ = false := by
  refine ⟨?_, World.ownsRow.frozenAt h.own _⟩
  have := World.ownsRow.cellAt h.own done.length (by omega)
  rw [this, List.getElem?_append_right (by rw [h.len]; exact Nat.le_refl _), h.len]
  simp
/-- The last row has grown, and its slice is stored. -/
theorem CSt.grown {w0 : World} {B rb g cap : Nat} {vsd : List Value} {vc : Value} {done : List (List Cell)} {cur cur' : List Cell} {Bc : Nat} {w w' : World} {v' : Value} {n : Nat} {xs : List Value} (h : CSt w0 B rb g cap vsd vc done cur Bc w)
    (ho : w'.ownsRow Bc 37 3 v' n xs) (hn : n = cur'.length) (hx : xs = encs cur') (hg : w.grownBy w' vc.ownBlock) (hat : v'.ownBlock = vc.ownBlock ∨ ∃ q, v'.ownBlock = some q ∧ w.heap.size ≤ q) :
    CSt w0 B rb g cap vsd v' done cur' Bc (w'.setCell ⟨g, done.length, none⟩ v') := by
  subst hn hx
  have hT := Touch.of_grown hg
  have hgl : some g ≠ vc.ownBlock := own_not h.cu (own_typed h.own (k := g) rfl).choose_spec (by decide)
  have hrl : some rb ≠ vc.ownBlock := own_not h.cu h.box (by decide)
  have hgr : g ≠ rb := by
    intro e
    obtain ⟨cu1, h1⟩ := own_typed h.own (k := g) rfl
    rw [e, h.box] at h1
    injection h1 with h1
    injection h1 with _ h2
    exact absurd h2 (by decide)
  have hgB := own_lt h.own g rfl
  have o1 : w'.ownsRow B 35 1 (.slice (some ⟨g, 0, none⟩) (done.length + 1) cap) (done.length + 1) (vsd ++ [vc]) := Touch.own h.own hT (fun k hk e => by
    simp [Value.ownBlock] at hk; subst hk; exact hgl e)
  have o2 := (World.ownsRow.stored o1 done.length v').1
  have hset : (vsd ++ [vc]).set done.length v' = vsd ++ [v'] := by
    rw [← h.len, List.set_append_right _ _ (Nat.le_refl _)]; simp
  rw [hset] at o2
  have hne : ∀ (k : Nat), v'.ownBlock = some k → k ≠ g := by
    intro k hk e
    subst e
    rcases hat with e | ⟨q, e, hq⟩
    · rw [e] at hk; exact hgl hk.symm
    · rw [e] at hk; injection hk with hk; omega
  have S1 : Touch (fun k => k = g) w' (w'.setCell ⟨g, done.length, none⟩ v') := Touch.setCell (Touch.refl _ _) _ _ rfl
  refine ⟨?_, o2, ?_, Touch.own ho S1 (fun k hk e => hne k hk e), h.lB, by simpa using Nat.le_trans h.lw hg.size, ?_, h.ge⟩
  · exact box_touch (box_touch h.box hT hrl) S1 (fun e => hgr e.symm)
  · refine h.dn.imp (fun v l x => ⟨Touch.own (Touch.own x.1 hT ?_) S1 ?_, x.2⟩)
    · intro k hk e
      have := x.2 k hk
      have := (own_lt h.cu k e.symm).1
      omega
    · intro k hk e
      subst e
      obtain ⟨cu1, h1⟩ := own_typed h.own (k := k) rfl
      exact own_not x.1 h1 (by decide) hk.symm
  · refine Below.setCell (h.bel.grown hg (Nat.le_trans h.lB h.lw) (fun k hk => Nat.le_trans h.lB (own_lt h.cu k hk).1)) (p := ⟨g, done.length, none⟩) hgB.1 _

/-- 'make([]T, 0, n)', for every world. -/
theorem make_eq {P : Program} (t e : TypeId) (z : Value) (sz bytes : Nat) (h1 : P.underlying t = some (.slice e)) (hinfo : (P.info? e).map (fun i => (i.zero, i.size, i.bytes)) = some (some z, sz, bytes)) (n : Nat) (b2 : bytes * n ≤ 281474976710656) (b3 : n ≤ maxLen) :
    ∃ MC : Array Value, MC.size = n * sz ∧ ∀ W : World, (Instr.makeSlice t (.int .i64 0) (.int .i64 (n : Int))).run P W = .ok (.slice (some ⟨W.heap.size, 0, none⟩) 0 n) (W.alloc (.cells MC e)) := by
  obtain ⟨i, hi, hzz⟩ := Option.map_eq_some_iff.1 hinfo
  simp only [Prod.mk.injEq] at hzz
  refine ⟨madeCells z.cells (n * i.size), by rw [size_madeCells, hzz.2.1], fun W => ?_⟩
  have h63' : (n : Int) ≤ 9223372036854775807 := by have h := b3; simp [maxLen] at h; omega
  have hb' : (i.bytes : Int) * (n : Int) ≤ 281474976710656 := by
    have h : ((i.bytes * n : Nat) : Int) ≤ 281474976710656 := by rw [hzz.2.2]; omega
    rwa [Int.natCast_mul] at h
  have hr := run_make (P := P) W t e i z h1 hi hzz.1 .i64 .i64 0 n (Int.le_refl _) (by omega) hb' h63'
  simpa using hr
theorem CSt.fresh {w0 : World} {B rb g cap : Nat} {vsd : List Value} {vc : Value} {done : List (List Cell)} {cur : List Cell} {Bc : Nat} {w w1 w2 : World} {v1 v2 : Value} {n : Nat} {xs : List Value} (h : CSt w0 B rb g cap vsd vc done cur Bc w)
    (hb : Below w.heap.size w w1) (o1 : w1.ownsRow w.heap.size 37 3 v1 0 []) (hg : w1.grownBy w2 (some g)) (ho : w2.ownsRow B 35 1 v2 n xs) (hn : n = done.length + 1 + 1) (hx : xs = vsd ++ [vc] ++ [v1]) :
    ∃ g' cap', v2 = .slice (some ⟨g', 0, none⟩) (done.length + 1 + 1) cap' ∧ CSt w0 B rb g' cap' (vsd ++ [vc]) v1 (done ++ [cur]) [] w.heap.size (w2.setCell ⟨rb, 0, none⟩ v2) := by
  subst hn hx
  obtain ⟨g', cap', rfl, hg1, hg2, _⟩ := own_form ho (by omega)
  have h1 := h.below hb
  have hT := Touch.of_grown hg
  have hgt := (own_typed h1.own (k := g) rfl).choose_spec
  have hrg : rb ≠ g := by
    intro e
    obtain ⟨cu1, hgt2⟩ := own_typed h1.own (k := g) rfl
    rw [← e, h1.box] at hgt2
    injection hgt2 with hgt2
    injection hgt2 with _ h2
    exact absurd h2 (by decide)
  have hbx := box_touch h1.box hT (fun e => hrg (by injection e))
  have S1 : Touch (fun k => k = rb) w2 (w2.setCell ⟨rb, 0, none⟩ (.slice (some ⟨g', 0, none⟩) (done.length + 1 + 1) cap')) := Touch.setCell (Touch.refl _ _) _ _ rfl
  have kc : ∀ (Bx : Nat) (v : Value) (l : List Cell), OC w1 Bx v l → OC (w2.setCell ⟨rb, 0, none⟩ (.slice (some ⟨g', 0, none⟩) (done.length + 1 + 1) cap')) Bx v l := by
    intro Bx v l x
    refine Touch.own (Touch.own x hT ?_) S1 ?_
    · intro k hk e
      injection e with e
      subst e
      exact own_not x hgt (by decide) hk.symm
    · intro k hk e
      subst e
      exact own_not x h1.box (by decide) hk.symm
  have hgB := (own_lt h.own g rfl).1
  have hgB' : g' ≠ rb := by
    intro e
    obtain ⟨cu1, h2⟩ := own_typed ho (k := g') rfl
    rw [e, hbx] at h2
    injection h2 with h2
    injection h2 with _ h3
    exact absurd h3 (by decide)
  refine ⟨g', cap', rfl, ⟨?_, ?_, ?_, ?_, Nat.le_trans h.lB h.lw, ?_, ?_, h.ge⟩⟩
  · rw [box_set hbx]; simp
  · have := Touch.own ho S1 (fun k hk e => by simp [Value.ownBlock] at hk; omega)
    simpa using this
  · refine All2.append (h1.dn.imp (fun v l x => ⟨kc _ _ _ x.1, fun k hk => Nat.lt_of_lt_of_le (x.2 k hk) h.lw⟩)) ⟨⟨kc _ _ _ (h1.cu.mono h.lB), fun k hk => (own_lt h.cu k hk).2⟩, trivial⟩
  · exact kc _ _ _ (OC.mk o1 rfl rfl)
  · have := hg.size; have := hb.size; simp; omega
  · refine Below.setCell (h1.bel.grown hg (Nat.le_trans h1.lB h1.lw) (fun k hk => by injection hk with hk; omega)) (p := ⟨rb, 0, none⟩) h.ge _

set_option maxRecDepth 100000 in
set_option maxHeartbeats 2000000 in
/-- next(): a new row. -/
theorem next_calls (w0 : World) (B rb cb g cap cols : Nat) (vsd : List Value) (vc : Value) (done : List (List Cell)) (cur : List Cell) (Bc : Nat) (w : World) (h : CSt w0 B rb g cap vsd vc done cur Bc w)
    (hcb : w.heap[cb]? = some (.cells #[.int .i64 cols] 3 (0, 0))) (hc : cols ≤ 200) (hd : done.length ≤ 1000000) :
    Calls Tryd.prog 56 #[.pointer (some ⟨rb, 0, none⟩), .pointer (some ⟨cb, 0, none⟩)] w fun e w' => e = .returned (.tuple #[]) ∧
      ∃ g' cap' vsd' vc', CSt w0 B rb g' cap' vsd' vc' (done ++ [cur]) [] w.heap.size w' ∧ Touch (fun k => k = rb ∨ k = g) w w' := by
  have H := Hd.mk h
  obtain ⟨b0, b1⟩ := box_cell h.box
  obtain ⟨c0, c1⟩ := box_cell hcb
  have n0 := World.new_ne w _ b0
  have n1 := World.new_ne w _ c0
  have hcr : (⟨rb, 0, none⟩ : Addr) ≠ ⟨cb, 0, none⟩ := by
    intro e
    have e2 : rb = cb := by injection e
    subst e2
    have h1 := h.box
    rw [hcb] at h1
    injection h1 with h1
    injection h1 with _ h2
    exact absurd h2 (by decide)
  have hd0 : 0 < 1 := by decide
  have hd24 : 0 < 24 := by decide
  obtain ⟨MC, hmc, hmk⟩ := make_eq (P := Tryd.prog) 35 37 _ 3 32 Tryd.underlying35 Tryd.info37 cols (by omega) (by unfold maxLen; omega)
  obtain ⟨W1, hW1⟩ : ∃ W1, W1 = w.alloc (.cells MC 37) := ⟨_, rfl⟩
  obtain ⟨W2, hW2⟩ : ∃ W2, W2 = (W1.alloc (.cells #[.slice (some ⟨w.heap.size, 0, none⟩) 0 cols] 35)).drew := ⟨_, rfl⟩
  have HB1 : Below w.heap.size w W1 := by rw [hW1]; exact below_alloc1 _ _
  have HB2 : Below W1.heap.size W1 W2 := by rw [hW2]; exact (below_alloc1 _ _).drew
  have HMC : Hd (W1.ownsRow w.heap.size 37 3 (.slice (some ⟨w.heap.size, 0, none⟩) 0 cols) 0 []) := ⟨by rw [hW1]; exact World.ownsRow_made w MC cols (Nat.le_refl _) (by unfold maxLen; omega) hmc⟩
  have hs1 : W1.heap.size = w.heap.size + 1 := by rw [hW1]; simp
  have HRD : Hd (Rd W2 (.slice (some ⟨w.heap.size + 1, 0, none⟩) 1 1) 1 [.slice (some ⟨w.heap.size, 0, none⟩) 0 cols]) := ⟨by
    have h1 := rd_lit W1 #[.slice (some ⟨w.heap.size, 0, none⟩) 0 cols] 35 1 (by unfold maxLen; omega)
    rw [hs1] at h1
    rw [hW2]
    exact h1⟩
  have HHB : Hd (Below w.heap.size w W2) := ⟨below_next HB1 HB2⟩
  have HOWN := Hd.mk (below_own H.out.own HHB.out)
  have hbw := Nat.le_trans h.lB h.lw
  have HBX : Hd (B ≤ W2.heap.size) := ⟨Nat.le_trans hbw HHB.out.size⟩
  have HQ : Hd (∀ w3, W2.grownBy w3 (some g) → w3.cell? ⟨rb, 0, none⟩ = some (.slice (some ⟨g, 0, none⟩) (done.length + 1) cap) ∧ w3.frozen? ⟨rb, 0, none⟩ = false) := ⟨fun w3 hg => by
    have h1 := H.out.below HHB.out
    refine box_cell (box_touch h1.box (Touch.of_grown hg) ?_)
    intro e
    injection e with e
    obtain ⟨cu1, hgt2⟩ := own_typed h1.own (k := g) rfl
    rw [← e, h1.box] at hgt2
    injection hgt2 with hgt2
    injection hgt2 with _ h2
    exact absurd h2 (by decide)⟩
  have HMC2 := Hd.mk (below_own HMC.out HB2)
  have hsz : (done.length + 1 + 1) * 24 ≤ 140737488355328 := by omega
  have h1l : ∀ (x : Value), [x].length = 1 * 1 := fun _ => rfl
  have hrl := box_lt h.box
  have hcl := box_lt hcb
  have r2 : ¬ rb = w.heap.size + 1 := by omega
  have r3 : ¬ cb = w.heap.size + 1 := by omega
  have hone : ∀ u ∈ [Value.slice (some ⟨w.heap.size, 0, none⟩) 0 cols], u.oneCell' = true := by intro u hu; simp at hu; subst hu; rfl
  have HONE := Hd.mk hone
  have HWW := Hd.mk (And.intro hW1 hW2)
  have HHB1 := Hd.mk HB1
  have HHB2 := Hd.mk HB2
  clear h hone hmc hs1 HB1 HB2 hW1 hW2 hbw
  go_enter Tryd.func56, Tryd.ntmps56
  go_wp2_with fail
  go_region_law (rw [← HWW.out.1, ← HWW.out.2]; refine step_app_rd rfl (.tmp 2) (.tmp 5) 25 35 _ 1 24 rfl Tryd.underlying25 Tryd.info35 rfl hd0 hd24 B _ _ (done.length + 1) 1 (vsd ++ [vc]) [.slice (some ⟨w.heap.size, 0, none⟩) 0 cols] rfl rfl (by exact HRD.out) (h1l _) HONE.out (by exact HOWN.out) HBX.out hsz ?_; intro v3 w3 hown3 hgr3 hat3; obtain ⟨q0, q1⟩ := HQ.out _ hgr3; obtain ⟨A3, c3, hv3⟩ := own_slice hown3; subst hv3)
  all_goals
    go_end0
    have hgr4 : W2.grownBy w3 (some g) := hgr3
    obtain ⟨g', cap', e, hC⟩ := CSt.fresh H.out (below_next HHB1.out HHB2.out) HMC2.out hgr4 hown3 rfl rfl
    rw [e] at hC
    refine ⟨rfl, g', cap', vsd ++ [vc], .slice (some ⟨w.heap.size, 0, none⟩) 0 cols, ?_, ?_⟩
    · first | (rw [e]; exact hC) | exact hC
    · exact Touch.setCell (Touch.trans (Touch.of_below (below_next HHB1.out HHB2.out)) (Touch.of_grown hgr4) (fun k hk e => .inr (by injection e))) _ _ (.inl rfl)
end Go.Proofs.YthpfhlhoekgpjaaDoor
