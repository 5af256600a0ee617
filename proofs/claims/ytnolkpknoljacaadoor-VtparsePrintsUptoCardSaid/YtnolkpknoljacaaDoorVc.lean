/- The parser's steps over one control sequence: slices.Clone at ints, tell, ends, param, counts, sequence, esc. -/
import Derived.Test.YtnolkpknoljacaaDoorVb
set_option linter.unusedVariables false
set_option linter.unusedSimpArgs false
namespace Go.Proofs.YtnolkpknoljacaaDoor
open Go.RowKit

theorem below_drew (w : World) : Below w.heap.size w w.drew := ⟨rfl, rfl, rfl, Nat.le_refl _, fun _ _ => rfl⟩
set_option maxRecDepth 100000 in
theorem clonej_calls (v : Value) (l : List Int) (w : World) (hv : Rd w v l.length (ints l)) (hn : l.length * 8 ≤ 140737488355328) :
    Calls Tryd.prog 58 #[v] w fun e w' => ∃ v', e = .returned v' ∧ w'.ownsRow w.heap.size 3 1 v' l.length (ints l) ∧ Below w.heap.size w w' := by
  have HV := Hd.mk hv
  obtain ⟨A, c, rfl, h1, h2, h3⟩ := hv
  have heq : ∀ w : World, (binOp .eql 27 (.slice A l.length c) (.slice none 0 0)).run Tryd.prog w = .ok (.bool A.isNone) w := fun w => Lib.run_eql_slice_nil w 27 3 A _ _ _ _ Tryd.underlying27
  cases A with
  | none =>
    have hl : l = [] := by
      rcases h3 with h3 | ⟨b, o, h, _⟩
      · simpa [ints] using h3
      · cases h
    subst hl
    clear HV h3
    simp only [List.length_nil] at heq ⊢
    go_enter Tryd.func58, Tryd.ntmps58
    go_wp2_with fail
    go_ret
    exact ⟨_, rfl, World.ownsRow_nil _ _ _ _, Below.refl _ _⟩
  | some a =>
    have HO := own_empty w 3 1
    have HB := below_alloc1 w (.cells #[] 3)
    have HV2 := Hd.mk (Rd.below HV.out HB)
    have HO2 := Hd.mk HO
    have hb : (0 + l.length) * 8 ≤ 140737488355328 := by omega
    clear HO h3 HV
    go_enter Tryd.func58, Tryd.ntmps58
    go_wp2_with (at_builtin; refine app_rd rfl (.tmp 5) (.tmp 6) 27 3 _ 1 8 rfl Tryd.underlying27 Tryd.info3 rfl (by decide) (by decide) w.heap.size _ _ 0 l.length [] (ints l) rfl rfl HV2.out (by simp [ints]) (ints_one l) HO2.out (by simp) hb ?_)
    intro v1 w1 hown1 hgr1 hat1
    have hb1 : Below w.heap.size w w1 := HB.grown hgr1 (by simp) (fun j hj => (own_lt HO2.out j hj).1)
    have HX := Hd.mk (And.intro (show w1.ownsRow w.heap.size 3 1 v1 l.length (ints l) by simpa using hown1) hb1)
    clear hown1 hgr1 hat1 hb1
    go_wp2_with fail
    go_ret
    exact ⟨_, rfl, HX.out.1, HX.out.2⟩
section
variable {w0 w w' : World} {B pb db : Nat} {st many : Int} {a : AV} {pl : List Int} {acts : List AV} {vo bv : Value}
/-- The actions have grown. -/
theorem PF.grown (h : PF w0 B pb db st a pl many acts vo bv w) {v5 : Value} {w5 : World} {n : Nat} {xs : List Value} {acts' : List AV} (hgr : w.grownBy w5 vo.ownBlock) (hown : w5.ownsRow B 29 7 v5 n xs) (hn : n = acts'.length) (hx : xs = encA acts') :
    w5.cell? ⟨pb, 11, none⟩ = some vo ∧ w5.frozen? ⟨pb, 11, none⟩ = false ∧ PF w0 B pb db st a pl many acts' v5 bv (w5.setCell ⟨pb, 11, none⟩ v5) := by
  subst hn hx
  have hT := Touch.of_grown hgr
  have hx := box_touch h.box hT (own_not h.out h.box (by decide))
  have hd := box_touch h.dec hT (own_not h.out h.dec (by decide))
  have hp : w5.ownsRow B 3 1 a.pv pl.length (ints pl) := Touch.own h.par hT (fun k hk e => own_type_ne h.par h.out (by decide) k hk e.symm)
  have hS := (Touch.refl (fun k => k = pb) w5).setCell ⟨pb, 11, none⟩ v5 rfl
  refine ⟨by rw [blk_cell hx]; rfl, blk_froz hx _, ?_⟩
  refine ⟨by rw [box_store hx]; rfl, box_touch hd hS (ne_type hd hx (by decide)), Touch.own hp hS (fun k hk e => own_not hp hx (by decide) (by rw [hk, e])), Touch.own hown hS (fun k hk e => own_not hown hx (by decide) (by rw [hk, e])), ?_, h.gp, h.gd, ?_⟩
  · exact (h.bel.grown hgr h.sz (fun j hj => (own_lt h.out j hj).1)).setCell (p := ⟨pb, 11, none⟩) h.gp v5
  · have := hT.size; have := h.sz; simp; omega
/-- The numbers have grown. -/
theorem PF.grownP (h : PF w0 B pb db st a pl many acts vo bv w) {v5 : Value} {w5 : World} {n : Nat} {xs : List Value} {pl' : List Int} (hgr : w.grownBy w5 a.pv.ownBlock) (hown : w5.ownsRow B 3 1 v5 n xs) (hn : n = pl'.length) (hx : xs = ints pl') :
    w5.cell? ⟨pb, 7, none⟩ = some a.pv ∧ w5.frozen? ⟨pb, 7, none⟩ = false ∧ PF w0 B pb db st { a with pv := v5 } pl' many acts vo bv (w5.setCell ⟨pb, 7, none⟩ v5) := by
  subst hn hx
  have hT := Touch.of_grown hgr
  have hx := box_touch h.box hT (own_not h.par h.box (by decide))
  have hd := box_touch h.dec hT (own_not h.par h.dec (by decide))
  have ho : w5.ownsRow B 29 7 vo acts.length (encA acts) := Touch.own h.out hT (fun k hk e => own_type_ne h.out h.par (by decide) k hk e.symm)
  have hS := (Touch.refl (fun k => k = pb) w5).setCell ⟨pb, 7, none⟩ v5 rfl
  refine ⟨by rw [blk_cell hx]; rfl, blk_froz hx _, ?_⟩
  refine ⟨by rw [box_store hx]; rfl, box_touch hd hS (ne_type hd hx (by decide)), Touch.own hown hS (fun k hk e => own_not hown hx (by decide) (by rw [hk, e])), Touch.own ho hS (fun k hk e => own_not ho hx (by decide) (by rw [hk, e])), ?_, h.gp, h.gd, ?_⟩
  · exact (h.bel.grown hgr h.sz (fun j hj => (own_lt h.par j hj).1)).setCell (p := ⟨pb, 7, none⟩) h.gp v5
  · have := hT.size; have := h.sz; simp; omega
/-- A number is written. -/
theorem PF.storeP (h : PF w0 B pb db st a pl many acts vo bv w) {g n cap : Nat} (hg : a.pv = .slice (some ⟨g, 0, none⟩) n cap) (j : Nat) (x : Int) :
    PF w0 B pb db st a (pl.set j x) many acts vo bv (w.setCell ⟨g, j, none⟩ (.int .i64 x)) := by
  have hp := h.par
  rw [hg] at hp
  have hn : n = pl.length := by
    rcases hp.2 with ⟨h1, _⟩ | ⟨g', cap, cur, h1, _⟩
    · cases h1
    · injection h1
  subst hn
  have hb : (Value.slice (some ⟨g, 0, none⟩) pl.length cap).ownBlock = some g := rfl
  have hst := (World.ownsRow.stored hp j (.int .i64 x)).1
  have hT := (Touch.refl (fun k => k = g) w).setCell ⟨g, j, none⟩ (.int .i64 x) rfl
  refine ⟨box_touch h.box hT (fun e => own_not hp h.box (by decide) (by rw [hb, e])), box_touch h.dec hT (fun e => own_not hp h.dec (by decide) (by rw [hb, e])), ?_, Touch.own h.out hT (fun k hk e => own_type_ne h.out hp (by decide) k hk (by rw [hb, e])), h.bel.setCell (p := ⟨g, j, none⟩) (own_lt hp g hb).1 _, h.gp, h.gd, by simpa using h.sz⟩
  rw [hg]
  have e1 : ints (pl.set j x) = (ints pl).set j (.int .i64 x) := by simp [ints, List.map_set]
  rw [e1, List.length_set]
  exact hst
end
theorem av_one (a : AV) (h : a.pv.oneCell' = true) : ∀ u ∈ AV.cells a, u.oneCell' = true := by
  intro u hu
  simp only [AV.cells, List.mem_cons, List.mem_nil_iff, or_false] at hu
  rcases hu with rfl | rfl | rfl | rfl | rfl | rfl | rfl
  all_goals first | rfl | exact h

set_option maxRecDepth 100000 in
set_option maxHeartbeats 4000000 in
theorem tell_calls {w0 w : World} {B pb db : Nat} {st many : Int} {a : AV} {pl : List Int} {acts : List AV} {vo bv : Value} (kind : Int) (h : PF w0 B pb db st a pl many acts vo bv w) (hp : pl.length ≤ 1000) (ha : acts.length ≤ 1000000) :
    Calls Tryd.prog 40 #[.pointer (some ⟨pb, 0, none⟩), .int .i64 kind] w fun e w' => e = .returned (.tuple #[]) ∧ ∃ v' vo', PF w0 B pb db st a pl many (acts ++ [{ a with k := kind, pv := v' }]) vo' bv w' ∧ w'.ownsRow w.heap.size 3 1 v' pl.length (ints pl) := by
  have HP := Hd.mk h
  have hpv := own_slice h.par
  obtain ⟨k, r, f, p, pv, i, t⟩ := a
  simp only at hpv
  obtain ⟨Ap, cp, rfl⟩ := hpv
  have x3 : w.cell? ⟨pb, 3, none⟩ = some (.int .i64 k) := h.c 3
  have x4 : w.cell? ⟨pb, 4, none⟩ = some (.int .i32 r) := h.c 4
  have x5 : w.cell? ⟨pb, 5, none⟩ = some (.int .u8 f) := h.c 5
  have x6 : w.cell? ⟨pb, 6, none⟩ = some (.int .u8 p) := h.c 6
  have x7 : w.cell? ⟨pb, 7, none⟩ = some (.slice Ap pl.length cp) := h.c 7
  have x8 : w.cell? ⟨pb, 8, none⟩ = some (.string i) := h.c 8
  have x9 : w.cell? ⟨pb, 9, none⟩ = some (.string t) := h.c 9
  have HB1 := Hd.mk (below_alloc1 w (.cells #[.int .i64 kind, .int .i32 r, .int .u8 f, .int .u8 p, .slice Ap pl.length cp, .string i, .string t] 29))
  have HX1 := Hd.mk (heap_alloc_new w (.cells #[.int .i64 kind, .int .i32 r, .int .u8 f, .int .u8 p, .slice Ap pl.length cp, .string i, .string t] 29))
  have HR := Hd.mk (own_rd h.par)
  have hz := h.sz
  clear h
  go_enter Tryd.func40, Tryd.ntmps40
  go_wp2_with fail
  clear x3 x4 x5 x6 x7 x8 x9
  generalize w.alloc (.cells #[.int .i64 kind, .int .i32 r, .int .u8 f, .int .u8 p, .slice Ap pl.length cp, .string i, .string t] 29) = w1 at *
  refine (clonej_calls (.slice Ap pl.length cp) pl w1 (Rd.below HR.out HB1.out) (by omega)).mono ?_
  rintro e w2 ⟨v2, rfl, ho2, hb2⟩
  have HO2 := Hd.mk ho2
  have HB2 := Hd.mk (below_next HB1.out hb2)
  have HX2 := Hd.mk (box_touch HX1.out (Touch.of_below (S := fun _ => False) hb2) id)
  have HP2 := Hd.mk (HP.out.below HB2.out)
  have hkl := box_lt HX1.out
  have hkl2 : w.heap.size < w1.heap.size := hkl
  obtain ⟨A2, c2, rfl⟩ := own_slice ho2
  clear ho2 hb2
  have z0 : w2.cell? ⟨w.heap.size, 0, none⟩ = some (.int .i64 kind) := by rw [blk_cell HX2.out]; rfl
  have z1 : w2.cell? ⟨w.heap.size, 1, none⟩ = some (.int .i32 r) := by rw [blk_cell HX2.out]; rfl
  have z2 : w2.cell? ⟨w.heap.size, 2, none⟩ = some (.int .u8 f) := by rw [blk_cell HX2.out]; rfl
  have z3 : w2.cell? ⟨w.heap.size, 3, none⟩ = some (.int .u8 p) := by rw [blk_cell HX2.out]; rfl
  have z4 : w2.cell? ⟨w.heap.size, 4, none⟩ = some (.slice Ap pl.length cp) := by rw [blk_cell HX2.out]; rfl
  have z5 : w2.cell? ⟨w.heap.size, 5, none⟩ = some (.string i) := by rw [blk_cell HX2.out]; rfl
  have z6 : w2.cell? ⟨w.heap.size, 6, none⟩ = some (.string t) := by rw [blk_cell HX2.out]; rfl
  have zf : w2.frozen? ⟨w.heap.size, 4, none⟩ = false := blk_froz HX2.out _
  go_upto_region 3 with (fail)
  clear z0 z1 z2 z3 z4 z5 z6 zf
  have hT := (Touch.refl (fun j => j = w.heap.size) w2).setCell ⟨w.heap.size, 4, none⟩ (.slice A2 pl.length c2) rfl
  have HX3 := Hd.mk (box_store (j := 4) (x := .slice A2 pl.length c2) HX2.out)
  have HB3 := Hd.mk (HB2.out.setCell (p := ⟨w.heap.size, 4, none⟩) (Nat.le_refl _) (.slice A2 pl.length c2))
  have HP3 := Hd.mk (HP.out.below HB3.out)
  have HO3 : Hd ((w2.setCell ⟨w.heap.size, 4, none⟩ (.slice A2 pl.length c2)).ownsRow w1.heap.size 3 1 (.slice A2 pl.length c2) pl.length (ints pl)) := ⟨Touch.own HO2.out hT (fun k hk e => by have := (own_lt HO2.out k hk).1; omega)⟩
  clear hT HP2 HX2
  generalize w2.setCell ⟨w.heap.size, 4, none⟩ (.slice A2 pl.length c2) = w3 at *
  obtain ⟨Av, cv, rfl⟩ := own_slice HP3.out.out
  have y0 : w3.cell? ⟨w.heap.size, 0, none⟩ = some (.int .i64 kind) := by rw [blk_cell HX3.out]; rfl
  have y1 : w3.cell? ⟨w.heap.size, 1, none⟩ = some (.int .i32 r) := by rw [blk_cell HX3.out]; rfl
  have y2 : w3.cell? ⟨w.heap.size, 2, none⟩ = some (.int .u8 f) := by rw [blk_cell HX3.out]; rfl
  have y3 : w3.cell? ⟨w.heap.size, 3, none⟩ = some (.int .u8 p) := by rw [blk_cell HX3.out]; rfl
  have y4 : w3.cell? ⟨w.heap.size, 4, none⟩ = some (.slice A2 pl.length c2) := by rw [blk_cell HX3.out]; rfl
  have y5 : w3.cell? ⟨w.heap.size, 5, none⟩ = some (.string i) := by rw [blk_cell HX3.out]; rfl
  have y6 : w3.cell? ⟨w.heap.size, 6, none⟩ = some (.string t) := by rw [blk_cell HX3.out]; rfl
  have x11 : w3.cell? ⟨pb, 11, none⟩ = some (.slice Av acts.length cv) := HP3.out.c 11
  have hpbl : pb < w3.heap.size := box_lt HP3.out.box
  have hxbl : w.heap.size < w3.heap.size := box_lt HX3.out
  have hd7 : 0 < 7 := by decide
  have hd72 : 0 < 72 := by decide
  have hm1 : 1 ≤ maxLen := by unfold maxLen; omega
  have hln : (acts.length + 1) * 72 ≤ 140737488355328 := by omega
  have HPD := Hd.mk (HP3.out.below (below_next (below_drew w3) (below_alloc1 w3.drew (.cells #[.int .i64 kind, .int .i32 r, .int .u8 f, .int .u8 p, .slice A2 pl.length c2, .string i, .string t] 29))))
  have HOD := Hd.mk (below_own HO3.out (below_next (below_drew w3) (below_alloc1 w3.drew (.cells #[.int .i64 kind, .int .i32 r, .int .u8 f, .int .u8 p, .slice A2 pl.length c2, .string i, .string t] 29))))
  have HAV := Hd.mk (av_one ⟨kind, r, f, p, .slice A2 pl.length c2, i, t⟩ rfl)
  have hEA : encA [(⟨kind, r, f, p, .slice A2 pl.length c2, i, t⟩ : AV)] = AV.cells ⟨kind, r, f, p, .slice A2 pl.length c2, i, t⟩ := by simp [encA]
  have HEA := Hd.mk hEA
  clear hEA
  go_region_law (refine step_app_rd rfl (.tmp 19) (.tmp 21) 23 29 _ 7 72 rfl Tryd.underlying23 Tryd.info29 rfl hd7 hd72 B (.slice Av acts.length cv) _ acts.length 1 (encA acts) _ rfl rfl (rd_lit _ #[.int .i64 kind, .int .i32 r, .int .u8 f, .int .u8 p, .slice A2 pl.length c2, .string i, .string t] 29 1 hm1) rfl HAV.out (by exact HPD.out.out) (by exact HPD.out.sz) hln ?_; intro v5 w5 hown5 hgr5 hat5; obtain ⟨A5, c5, hv5⟩ := own_slice hown5; subst hv5; obtain ⟨m0, m1, m2⟩ := HPD.out.grown (acts' := acts ++ [⟨kind, r, f, p, .slice A2 pl.length c2, i, t⟩]) hgr5 hown5 (by simp) (by rw [encA_append, HEA.out]; rfl); have HN := Hd.mk m2; have HQ : Hd (w5.ownsRow w1.heap.size 3 1 (.slice A2 pl.length c2) pl.length (ints pl)) := ⟨Touch.own HOD.out (Touch.of_grown hgr5) (fun k hk e => own_type_ne HOD.out HPD.out.out (by decide) k hk e.symm)⟩; have HNX := Hd.mk (box_touch HPD.out.box (Touch.of_grown hgr5) (own_not HPD.out.out HPD.out.box (by decide))); clear hown5 hgr5 hat5 m2)
  all_goals
    go_wp2_with fail
    go_end0
    refine ⟨rfl, _, _, HN.out, own_mono ?_ (Nat.le_of_lt hkl2)⟩
    exact Touch.own HQ.out ((Touch.refl (fun j => j = pb) w5).setCell ⟨pb, 11, none⟩ _ rfl) (fun k hk e => own_not HQ.out HNX.out (by decide) (by rw [hk, e]))
end Go.Proofs.YtnolkpknoljacaaDoor
