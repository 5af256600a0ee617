/- The parser's steps over one control sequence: ends, param, counts, sequence, esc. -/
import Derived.Test.YtnolkpknoljacaaDoorVc
set_option linter.unusedVariables false
set_option linter.unusedSimpArgs false
namespace Go.Proofs.YtnolkpknoljacaaDoor
open Go.RowKit

set_option maxRecDepth 100000 in
set_option maxHeartbeats 4000000 in
theorem ends_calls {w0 w : World} {B pb db : Nat} {st many : Int} {a : AV} {pl : List Int} {acts : List AV} {vo bv : Value} (b kind : Int) (h : PF w0 B pb db st a pl many acts vo bv w) (hp : pl.length ≤ 1000) (ha : acts.length ≤ 1000000) :
    Calls Tryd.prog 62 #[.pointer (some ⟨pb, 0, none⟩), .int .u8 b, .int .i64 kind] w fun e w' => e = .returned (.tuple #[]) ∧ ∃ v' vo', PF w0 B pb db 0 { a with f := b } pl many (acts ++ [{ a with f := b, k := kind, pv := v' }]) vo' bv w' ∧ w'.ownsRow w.heap.size 3 1 v' pl.length (ints pl) := by
  have H := Hd.mk h
  have x5 : w.cell? ⟨pb, 5, none⟩ = some (.int .u8 a.f) := h.c 5
  have f5 := h.f 5
  have HP := Hd.mk (h.store 5 (.int .u8 b) (st' := st) (many' := many) (a' := { a with f := b }) (pl' := pl) (acts' := acts) (vo' := vo) (by cases a; rfl) h.par h.out)
  have hsz : (w.setCell ⟨pb, 5, none⟩ (.int .u8 b)).heap.size = w.heap.size := by simp
  have HSZ := Hd.mk hsz
  clear h hsz
  go_enter Tryd.func62, Tryd.ntmps62
  go_wp2_with fail
  clear x5 f5
  generalize w.setCell ⟨pb, 5, none⟩ (.int .u8 b) = w1 at *
  refine (tell_calls kind HP.out hp ha).mono ?_
  rintro e w2 ⟨rfl, v2, vo2, hp2, ho2⟩
  have HP2 := Hd.mk hp2
  have HO2 := Hd.mk ho2
  have x1 : w2.cell? ⟨pb, 1, none⟩ = some (.int .i64 st) := hp2.c 1
  have f1 := hp2.f 1
  clear hp2 ho2
  go_wp2_with fail
  go_end0
  refine ⟨rfl, v2, vo2, HP2.out.store 1 (.int .i64 0) rfl HP2.out.par HP2.out.out, ?_⟩
  rw [← HSZ.out]
  exact Touch.own HO2.out ((Touch.refl (fun j => j = pb) w2).setCell ⟨pb, 1, none⟩ _ rfl) (fun k hk e => own_not HO2.out HP2.out.box (by decide) (by rw [hk, e]))

/-! The first digit. -/
set_option maxRecDepth 100000 in
set_option maxHeartbeats 4000000 in
theorem paramA_calls {w0 w : World} {B pb db : Nat} {st : Int} {a : AV} {acts : List AV} {vo bv : Value} (h : PF w0 B pb db st a [] 0 acts vo bv w) :
    Calls Tryd.prog 77 #[.pointer (some ⟨pb, 0, none⟩), .int .u8 51] w fun e w' => e = .returned (.tuple #[]) ∧ ∃ v', PF w0 B pb db st { a with pv := v' } [3] 1 acts vo bv w' := by
  have x10 : w.cell? ⟨pb, 10, none⟩ = some (.int .i64 0) := h.c 10
  have x7 : w.cell? ⟨pb, 7, none⟩ = some a.pv := h.c 7
  have f10 := h.f 10
  have f7 := h.f 7
  have hpb := box_lt h.box
  have h1 := h.below (below_alloc1 w (.cells #[.int .i64 (-1)] 3))
  have hown : (w.alloc (.cells #[.int .i64 (-1)] 3)).ownsRow B 3 1 (.slice (some ⟨w.heap.size, 0, none⟩) 1 1) ([-1] : List Int).length (ints [-1]) :=
    ⟨rfl, .inr ⟨w.heap.size, 1, #[.int .i64 (-1)], rfl, h.sz, heap_alloc_new w _, Nat.le_refl _, by unfold maxLen; omega, rfl, rfl⟩⟩
  have h2 := h1.store 7 (.slice (some ⟨w.heap.size, 0, none⟩) 1 1) (st' := st) (many' := 0) (a' := { a with pv := .slice (some ⟨w.heap.size, 0, none⟩) 1 1 }) (pl' := [-1]) (acts' := acts) (vo' := vo) (by cases a; rfl) hown h1.out
  have HP := Hd.mk (h2.store 10 (.int .i64 1) (st' := st) (many' := 1) (a' := { a with pv := .slice (some ⟨w.heap.size, 0, none⟩) 1 1 }) (pl' := [-1]) (acts' := acts) (vo' := vo) rfl h2.par h2.out)
  rw [World.setCell_alloc_past _ _ _ _ hpb, World.setCell_alloc_past _ _ _ _ (by simpa using hpb)] at HP
  clear h h1 h2 hown
  go_enter Tryd.func77, Tryd.ntmps77
  go_upto_region 7 with (fail)
  clear x10 x7 f10 f7
  generalize ((w.setCell ⟨pb, 7, none⟩ (.slice (some ⟨w.heap.size, 0, none⟩) 1 1)).setCell ⟨pb, 10, none⟩ (.int .i64 1)).alloc (.cells #[.int .i64 (-1)] 3) = w2 at *
  have x10 : w2.cell? ⟨pb, 10, none⟩ = some (.int .i64 1) := HP.out.c 10
  have x7 : w2.cell? ⟨pb, 7, none⟩ = some (.slice (some ⟨w.heap.size, 0, none⟩) 1 1) := HP.out.c 7
  go_quiet (fail)
  have HP3 := Hd.mk (HP.out.below (quiet_below nq))
  clear x10 x7
  generalize w2.drewN nq = w3 at *
  have g0 : w3.cell? ⟨w.heap.size, 0, none⟩ = some (.int .i64 (-1)) := World.ownsRow.cellAt HP3.out.par 0 (by decide)
  have gf : w3.frozen? ⟨w.heap.size, 0, none⟩ = false := World.ownsRow.frozenAt HP3.out.par 0
  go_wp2_with fail
  go_end0
  exact ⟨rfl, _, HP3.out.storeP rfl 0 3⟩

/-! A semicolon behind the first number. -/
set_option maxRecDepth 100000 in
set_option maxHeartbeats 4000000 in
theorem paramB_calls {w0 w : World} {B pb db : Nat} {st : Int} {a : AV} {acts : List AV} {vo bv : Value} (h : PF w0 B pb db st a [3] 1 acts vo bv w) :
    Calls Tryd.prog 77 #[.pointer (some ⟨pb, 0, none⟩), .int .u8 59] w fun e w' => e = .returned (.tuple #[]) ∧ ∃ v', PF w0 B pb db st { a with pv := v' } [3, -1] 2 acts vo bv w' := by
  have x10 : w.cell? ⟨pb, 10, none⟩ = some (.int .i64 1) := h.c 10
  obtain ⟨Ap, cp, hpv⟩ := own_slice h.par
  have x7 : w.cell? ⟨pb, 7, none⟩ = some (.slice Ap 1 cp) := by rw [← show a.pv = .slice Ap 1 cp from hpv]; exact h.c 7
  have f10 := h.f 10
  have f7 := h.f 7
  have HP := Hd.mk (h.store 10 (.int .i64 2) (st' := st) (many' := 2) (a' := a) (pl' := [3]) (acts' := acts) (vo' := vo) (by cases a; rfl) h.par h.out)
  have HPV := Hd.mk (show a.pv = .slice Ap 1 cp from hpv)
  clear h hpv
  go_enter Tryd.func77, Tryd.ntmps77
  go_upto_region 5 with (fail)
  clear x10 x7 f10 f7
  generalize w.setCell ⟨pb, 10, none⟩ (.int .i64 2) = w2 at *
  have x7 : w2.cell? ⟨pb, 7, none⟩ = some (.slice Ap 1 cp) := by rw [← HPV.out]; exact HP.out.c 7
  have f7 := HP.out.f 7
  have hpr : w2.ownsRow B 3 1 (.slice Ap 1 cp) 1 (ints [3]) := by have := HP.out.par; rw [HPV.out] at this; exact this
  have HPR := Hd.mk hpr
  have hz := HP.out.sz
  clear hpr
  go_wp2_with (at_builtin; refine app_lit rfl (.tmp 37) (.tmp 38) 27 3 _ 1 8 rfl Tryd.underlying27 Tryd.info3 rfl (by decide) (by decide) B _ _ 1 _ _ rfl rfl rfl ?h1 HPR.out hz (by omega) ?_)
  case h1 => exact rfl
  intro v5 w5 hown5 hgr5 hat5
  obtain ⟨A5, c5, rfl⟩ := own_slice hown5
  obtain ⟨m0, m1, m2⟩ := HP.out.grownP (pl' := [3, -1]) (by rw [HPV.out]; exact hgr5) hown5 rfl rfl
  have HN := Hd.mk m2
  rw [HPV.out] at m0
  clear hown5 hgr5 hat5 m2 x7 f7
  go_wp2_with fail
  exact bodyPost_ret (v := .tuple #[]) (by simp [results, Tryd.results77, go_sem]) rfl ⟨rfl, _, HN.out⟩

/-! The second number's digit. -/
set_option maxRecDepth 100000 in
set_option maxHeartbeats 4000000 in
theorem paramC_calls {w0 w : World} {B pb db : Nat} {st : Int} {a : AV} {acts : List AV} {vo bv : Value} (h : PF w0 B pb db st a [3, -1] 2 acts vo bv w) :
    Calls Tryd.prog 77 #[.pointer (some ⟨pb, 0, none⟩), .int .u8 53] w fun e w' => e = .returned (.tuple #[]) ∧ PF w0 B pb db st a [3, 5] 2 acts vo bv w' := by
  have x10 : w.cell? ⟨pb, 10, none⟩ = some (.int .i64 2) := h.c 10
  obtain ⟨g, cp, hpv, -, -, -, -⟩ := own_form h.par (by decide)
  have x7 : w.cell? ⟨pb, 7, none⟩ = some (.slice (some ⟨g, 0, none⟩) 2 cp) := by rw [← show a.pv = .slice (some ⟨g, 0, none⟩) 2 cp from hpv]; exact h.c 7
  have HP := Hd.mk h
  have HPV := Hd.mk (show a.pv = .slice (some ⟨g, 0, none⟩) 2 cp from hpv)
  clear h hpv
  go_enter Tryd.func77, Tryd.ntmps77
  go_upto_region 7 with (fail)
  go_quiet (fail)
  have HP3 := Hd.mk (HP.out.below (quiet_below nq))
  clear x10 x7
  generalize w.drewN nq = w3 at *
  have hpr : w3.ownsRow B 3 1 (.slice (some ⟨g, 0, none⟩) 2 cp) 2 (ints [3, -1]) := by have := HP3.out.par; rw [HPV.out] at this; exact this
  have g0 : w3.cell? ⟨g, 1, none⟩ = some (.int .i64 (-1)) := World.ownsRow.cellAt hpr 1 (by decide)
  have gf : w3.frozen? ⟨g, 1, none⟩ = false := World.ownsRow.frozenAt hpr 1
  clear hpr
  go_wp2_with fail
  go_end0
  exact ⟨rfl, HP3.out.storeP HPV.out 1 5⟩
end Go.Proofs.YtnolkpknoljacaaDoor
