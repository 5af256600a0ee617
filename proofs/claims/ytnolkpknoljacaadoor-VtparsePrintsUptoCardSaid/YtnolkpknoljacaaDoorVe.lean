/- The parser's steps over one control sequence: counts, sequence, esc, one. -/
import Derived.Test.YtnolkpknoljacaaDoorVd
set_option linter.unusedVariables false
set_option linter.unusedSimpArgs false
namespace Go.Proofs.YtnolkpknoljacaaDoor
open Go.RowKit

section
variable {w0 w : World} {B pb db : Nat} {st : Int} {a : AV} {acts : List AV} {vo bv : Value}
set_option maxRecDepth 100000 in
set_option maxHeartbeats 4000000 in
theorem countsA_calls (h : PF w0 B pb db 3 a [] 0 acts vo bv w) :
    Calls Tryd.prog 63 #[.pointer (some ⟨pb, 0, none⟩), .int .u8 51, .int .i64 3, .int .i64 0] w fun e w' => e = .returned (.tuple #[]) ∧ ∃ v', PF w0 B pb db 4 { a with pv := v' } [3] 1 acts vo bv w' := by
  have H := Hd.mk (paramA_calls h)
  clear h
  go_enter Tryd.func63, Tryd.ntmps63
  go_wp2_with fail
  refine H.out.mono ?_
  rintro e w1 ⟨rfl, v1, h1⟩
  have HP := Hd.mk h1
  have x1 := h1.c 1
  have f1 := h1.f 1
  change w1.cell? ⟨pb, 1, none⟩ = some (.int .i64 3) at x1
  clear h1
  go_wp2_with fail
  exact bodyPost_ret (v := .tuple #[]) (by simp [results, Tryd.results63, go_sem]) rfl ⟨rfl, v1, HP.out.store 1 (.int .i64 4) rfl HP.out.par HP.out.out⟩
set_option maxRecDepth 100000 in
set_option maxHeartbeats 4000000 in
theorem countsB_calls (h : PF w0 B pb db 4 a [3] 1 acts vo bv w) :
    Calls Tryd.prog 63 #[.pointer (some ⟨pb, 0, none⟩), .int .u8 59, .int .i64 3, .int .i64 1] w fun e w' => e = .returned (.tuple #[]) ∧ ∃ v', PF w0 B pb db 4 { a with pv := v' } [3, -1] 2 acts vo bv w' := by
  have H := Hd.mk (paramB_calls h)
  clear h
  go_enter Tryd.func63, Tryd.ntmps63
  go_wp2_with fail
  refine H.out.mono ?_
  rintro e w1 ⟨rfl, v1, h1⟩
  have HP := Hd.mk h1
  have x1 := h1.c 1
  have f1 := h1.f 1
  change w1.cell? ⟨pb, 1, none⟩ = some (.int .i64 4) at x1
  clear h1
  go_wp2_with fail
  exact bodyPost_ret (v := .tuple #[]) (by simp [results, Tryd.results63, go_sem]) rfl ⟨rfl, v1, HP.out.store 1 (.int .i64 4) rfl HP.out.par HP.out.out⟩
set_option maxRecDepth 100000 in
set_option maxHeartbeats 4000000 in
theorem countsC_calls (h : PF w0 B pb db 4 a [3, -1] 2 acts vo bv w) :
    Calls Tryd.prog 63 #[.pointer (some ⟨pb, 0, none⟩), .int .u8 53, .int .i64 3, .int .i64 1] w fun e w' => e = .returned (.tuple #[]) ∧ PF w0 B pb db 4 a [3, 5] 2 acts vo bv w' := by
  have H := Hd.mk (paramC_calls h)
  clear h
  go_enter Tryd.func63, Tryd.ntmps63
  go_wp2_with fail
  refine H.out.mono ?_
  rintro e w1 ⟨rfl, h1⟩
  have HP := Hd.mk h1
  have x1 := h1.c 1
  have f1 := h1.f 1
  change w1.cell? ⟨pb, 1, none⟩ = some (.int .i64 4) at x1
  clear h1
  go_wp2_with fail
  exact bodyPost_ret (v := .tuple #[]) (by simp [results, Tryd.results63, go_sem]) rfl ⟨rfl, HP.out.store 1 (.int .i64 4) (by cases a; rfl) HP.out.par HP.out.out⟩

/-! sequence -/
set_option maxRecDepth 100000 in
set_option maxHeartbeats 4000000 in
theorem seqA_calls (h : PF w0 B pb db 3 a [] 0 acts vo bv w) :
    Calls Tryd.prog 44 #[.pointer (some ⟨pb, 0, none⟩), .int .u8 51] w fun e w' => e = .returned (.tuple #[]) ∧ ∃ v', PF w0 B pb db 4 { a with pv := v' } [3] 1 acts vo bv w' := by
  have H := Hd.mk (countsA_calls h)
  have x1 := h.c 1
  change w.cell? ⟨pb, 1, none⟩ = some (.int .i64 3) at x1
  clear h
  go_enter Tryd.func44, Tryd.ntmps44
  go_wp2_with fail
  refine H.out.mono ?_
  rintro e w1 ⟨rfl, v1, h1⟩
  have HP := Hd.mk h1
  clear h1
  go_wp2_with fail
  go_end0
  exact ⟨rfl, v1, HP.out⟩
set_option maxRecDepth 100000 in
set_option maxHeartbeats 4000000 in
theorem seqB_calls (h : PF w0 B pb db 4 a [3] 1 acts vo bv w) :
    Calls Tryd.prog 44 #[.pointer (some ⟨pb, 0, none⟩), .int .u8 59] w fun e w' => e = .returned (.tuple #[]) ∧ ∃ v', PF w0 B pb db 4 { a with pv := v' } [3, -1] 2 acts vo bv w' := by
  have H := Hd.mk (countsB_calls h)
  have x1 := h.c 1
  change w.cell? ⟨pb, 1, none⟩ = some (.int .i64 4) at x1
  clear h
  go_enter Tryd.func44, Tryd.ntmps44
  go_wp2_with fail
  refine H.out.mono ?_
  rintro e w1 ⟨rfl, v1, h1⟩
  have HP := Hd.mk h1
  clear h1
  go_wp2_with fail
  go_end0
  exact ⟨rfl, v1, HP.out⟩
set_option maxRecDepth 100000 in
set_option maxHeartbeats 4000000 in
theorem seqC_calls (h : PF w0 B pb db 4 a [3, -1] 2 acts vo bv w) :
    Calls Tryd.prog 44 #[.pointer (some ⟨pb, 0, none⟩), .int .u8 53] w fun e w' => e = .returned (.tuple #[]) ∧ PF w0 B pb db 4 a [3, 5] 2 acts vo bv w' := by
  have H := Hd.mk (countsC_calls h)
  have x1 := h.c 1
  change w.cell? ⟨pb, 1, none⟩ = some (.int .i64 4) at x1
  clear h
  go_enter Tryd.func44, Tryd.ntmps44
  go_wp2_with fail
  refine H.out.mono ?_
  rintro e w1 ⟨rfl, h1⟩
  have HP := Hd.mk h1
  clear h1
  go_wp2_with fail
  go_end0
  exact ⟨rfl, HP.out⟩
set_option maxRecDepth 100000 in
set_option maxHeartbeats 4000000 in
theorem seqH_calls {many : Int} {pl : List Int} (h : PF w0 B pb db 4 a pl many acts vo bv w) (hp : pl.length ≤ 1000) (ha : acts.length ≤ 1000000) :
    Calls Tryd.prog 44 #[.pointer (some ⟨pb, 0, none⟩), .int .u8 72] w fun e w' => e = .returned (.tuple #[]) ∧ ∃ v' vo', PF w0 B pb db 0 { a with f := 72 } pl many (acts ++ [{ a with f := 72, k := 4, pv := v' }]) vo' bv w' ∧ w'.ownsRow w.heap.size 3 1 v' pl.length (ints pl) := by
  have H := Hd.mk (ends_calls 72 4 h hp ha)
  have x1 := h.c 1
  change w.cell? ⟨pb, 1, none⟩ = some (.int .i64 4) at x1
  clear h
  go_enter Tryd.func44, Tryd.ntmps44
  go_wp2_with fail
  refine H.out.mono ?_
  rintro e w1 ⟨rfl, h1⟩
  have HP := Hd.mk h1
  clear h1
  go_wp2_with fail
  go_end0
  exact ⟨rfl, HP.out⟩
set_option maxRecDepth 100000 in
set_option maxHeartbeats 4000000 in
theorem esc_calls {many : Int} {pl : List Int} (h : PF w0 B pb db 1 a pl many acts vo bv w) :
    Calls Tryd.prog 43 #[.pointer (some ⟨pb, 0, none⟩), .int .u8 91] w fun e w' => e = .returned (.tuple #[]) ∧ PF w0 B pb db 3 a pl many acts vo bv w' := by
  have H := Hd.mk h
  have x1 := h.c 1
  have f1 := h.f 1
  change w.cell? ⟨pb, 1, none⟩ = some (.int .i64 1) at x1
  clear h
  go_enter Tryd.func43, Tryd.ntmps43
  go_wp2_with fail
  go_end0
  exact ⟨rfl, H.out.store 1 (.int .i64 3) rfl H.out.par H.out.out⟩

/-! one -/
def zeroA : AV := ⟨0, 0, 0, 0, .slice none 0 0, ⟨#[]⟩, ⟨#[]⟩⟩
set_option maxRecDepth 100000 in
set_option maxHeartbeats 4000000 in
theorem one0_calls {many : Int} {pl : List Int} {A : Option Addr} {c : Nat} (h : PF w0 B pb db 0 a pl many acts vo (.slice A 0 c) w) :
    Calls Tryd.prog 27 #[.pointer (some ⟨pb, 0, none⟩), .int .u8 27] w fun e w' => e = .returned (.tuple #[]) ∧ PF w0 B pb db 1 zeroA [] 0 acts vo (.slice none 0 0) w' := by
  have H := Hd.mk h
  have HF := Hd.mk (flush0_calls h.dec)
  have x1 : w.cell? ⟨pb, 1, none⟩ = some (.int .i64 0) := h.c 1
  have x2 : w.cell? ⟨pb, 2, none⟩ = some (.pointer (some ⟨db, 0, none⟩)) := h.c 2
  clear h
  go_enter Tryd.func27, Tryd.ntmps27
  go_wp2_with fail
  refine HF.out.mono ?_
  rintro e w1 ⟨rfl, rfl⟩
  have H1 := Hd.mk (H.out.hold (.slice none 0 0))
  generalize w.setCell ⟨db, 1, none⟩ (.slice none 0 0) = w1 at *
  clear x1 x2
  have x1 : w1.cell? ⟨pb, 1, none⟩ = some (.int .i64 0) := H1.out.c 1
  have x3 : w1.cell? ⟨pb, 3, none⟩ = some (.int .i64 a.k) := H1.out.c 3
  have x4 : w1.cell? ⟨pb, 4, none⟩ = some (.int .i32 a.r) := H1.out.c 4
  have x5 : w1.cell? ⟨pb, 5, none⟩ = some (.int .u8 a.f) := H1.out.c 5
  have x6 : w1.cell? ⟨pb, 6, none⟩ = some (.int .u8 a.p) := H1.out.c 6
  have x7 : w1.cell? ⟨pb, 7, none⟩ = some a.pv := H1.out.c 7
  have x8 : w1.cell? ⟨pb, 8, none⟩ = some (.string a.i) := H1.out.c 8
  have x9 : w1.cell? ⟨pb, 9, none⟩ = some (.string a.t) := H1.out.c 9
  have x10 : w1.cell? ⟨pb, 10, none⟩ = some (.int .i64 many) := H1.out.c 10
  have f1 := H1.out.f 1
  have f3 := H1.out.f 3
  have f4 := H1.out.f 4
  have f5 := H1.out.f 5
  have f6 := H1.out.f 6
  have f7 := H1.out.f 7
  have f8 := H1.out.f 8
  have f9 := H1.out.f 9
  have f10 := H1.out.f 10
  go_wp2_with (go_at_call 23; refine (print0_calls _ _).mono ?_; rintro e w' ⟨rfl, rfl⟩)
  go_end0
  refine ⟨rfl, ?_⟩
  have h1 := H1.out.store 1 (.int .i64 1) (st' := 1) (many' := many) (a' := a) (pl' := pl) (acts' := acts) (vo' := vo) (by cases a; rfl) H1.out.par H1.out.out
  have h3 := h1.store 3 (.int .i64 0) (st' := 1) (many' := many) (a' := { a with k := 0 }) (pl' := pl) (acts' := acts) (vo' := vo) (by cases a; rfl) h1.par h1.out
  have h4 := h3.store 4 (.int .i32 0) (st' := 1) (many' := many) (a' := { a with k := 0, r := 0 }) (pl' := pl) (acts' := acts) (vo' := vo) (by cases a; rfl) h3.par h3.out
  have h5 := h4.store 5 (.int .u8 0) (st' := 1) (many' := many) (a' := { a with k := 0, r := 0, f := 0 }) (pl' := pl) (acts' := acts) (vo' := vo) (by cases a; rfl) h4.par h4.out
  have h6 := h5.store 6 (.int .u8 0) (st' := 1) (many' := many) (a' := { a with k := 0, r := 0, f := 0, p := 0 }) (pl' := pl) (acts' := acts) (vo' := vo) (by cases a; rfl) h5.par h5.out
  have h7 := h6.store 7 (.slice none 0 0) (st' := 1) (many' := many) (a' := { a with k := 0, r := 0, f := 0, p := 0, pv := .slice none 0 0 }) (pl' := []) (acts' := acts) (vo' := vo) (by cases a; rfl) (World.ownsRow_nil _ _ _ _) h6.out
  have h8 := h7.store 8 (.string ⟨#[]⟩) (st' := 1) (many' := many) (a' := { a with k := 0, r := 0, f := 0, p := 0, pv := .slice none 0 0, i := ⟨#[]⟩ }) (pl' := []) (acts' := acts) (vo' := vo) (by cases a; rfl) h7.par h7.out
  have h9 := h8.store 9 (.string ⟨#[]⟩) (st' := 1) (many' := many) (a' := zeroA) (pl' := []) (acts' := acts) (vo' := vo) (by cases a; rfl) h8.par h8.out
  exact h9.store 10 (.int .i64 0) (st' := 1) (many' := 0) (a' := zeroA) (pl' := []) (acts' := acts) (vo' := vo) rfl h9.par h9.out
set_option maxRecDepth 100000 in
set_option maxHeartbeats 4000000 in
theorem one1_calls {many : Int} {pl : List Int} (h : PF w0 B pb db 1 a pl many acts vo bv w) :
    Calls Tryd.prog 27 #[.pointer (some ⟨pb, 0, none⟩), .int .u8 91] w fun e w' => e = .returned (.tuple #[]) ∧ PF w0 B pb db 3 a pl many acts vo bv w' := by
  have H := Hd.mk (esc_calls h)
  have x1 := h.c 1
  change w.cell? ⟨pb, 1, none⟩ = some (.int .i64 1) at x1
  clear h
  go_enter Tryd.func27, Tryd.ntmps27
  go_wp2_with fail
  refine H.out.mono ?_
  rintro e w1 ⟨rfl, h1⟩
  have HP := Hd.mk h1
  clear h1
  go_wp2_with fail
  go_end0
  exact ⟨rfl, HP.out⟩
set_option maxRecDepth 100000 in
set_option maxHeartbeats 4000000 in
theorem oneA_calls (h : PF w0 B pb db 3 a [] 0 acts vo bv w) :
    Calls Tryd.prog 27 #[.pointer (some ⟨pb, 0, none⟩), .int .u8 51] w fun e w' => e = .returned (.tuple #[]) ∧ ∃ v', PF w0 B pb db 4 { a with pv := v' } [3] 1 acts vo bv w' := by
  have H := Hd.mk (seqA_calls h)
  have x1 := h.c 1
  change w.cell? ⟨pb, 1, none⟩ = some (.int .i64 3) at x1
  clear h
  go_enter Tryd.func27, Tryd.ntmps27
  go_wp2_with fail
  refine H.out.mono ?_
  rintro e w1 ⟨rfl, h1⟩
  have HP := Hd.mk h1
  clear h1
  go_wp2_with fail
  go_end0
  exact ⟨rfl, HP.out⟩
set_option maxRecDepth 100000 in
set_option maxHeartbeats 4000000 in
theorem oneB_calls (h : PF w0 B pb db 4 a [3] 1 acts vo bv w) :
    Calls Tryd.prog 27 #[.pointer (some ⟨pb, 0, none⟩), .int .u8 59] w fun e w' => e = .returned (.tuple #[]) ∧ ∃ v', PF w0 B pb db 4 { a with pv := v' } [3, -1] 2 acts vo bv w' := by
  have H := Hd.mk (seqB_calls h)
  have x1 := h.c 1
  change w.cell? ⟨pb, 1, none⟩ = some (.int .i64 4) at x1
  clear h
  go_enter Tryd.func27, Tryd.ntmps27
  go_wp2_with fail
  refine H.out.mono ?_
  rintro e w1 ⟨rfl, h1⟩
  have HP := Hd.mk h1
  clear h1
  go_wp2_with fail
  go_end0
  exact ⟨rfl, HP.out⟩
set_option maxRecDepth 100000 in
set_option maxHeartbeats 4000000 in
theorem oneC_calls (h : PF w0 B pb db 4 a [3, -1] 2 acts vo bv w) :
    Calls Tryd.prog 27 #[.pointer (some ⟨pb, 0, none⟩), .int .u8 53] w fun e w' => e = .returned (.tuple #[]) ∧ PF w0 B pb db 4 a [3, 5] 2 acts vo bv w' := by
  have H := Hd.mk (seqC_calls h)
  have x1 := h.c 1
  change w.cell? ⟨pb, 1, none⟩ = some (.int .i64 4) at x1
  clear h
  go_enter Tryd.func27, Tryd.ntmps27
  go_wp2_with fail
  refine H.out.mono ?_
  rintro e w1 ⟨rfl, h1⟩
  have HP := Hd.mk h1
  clear h1
  go_wp2_with fail
  go_end0
  exact ⟨rfl, HP.out⟩
set_option maxRecDepth 100000 in
set_option maxHeartbeats 4000000 in
theorem oneH_calls {many : Int} {pl : List Int} (h : PF w0 B pb db 4 a pl many acts vo bv w) (hp : pl.length ≤ 1000) (ha : acts.length ≤ 1000000) :
    Calls Tryd.prog 27 #[.pointer (some ⟨pb, 0, none⟩), .int .u8 72] w fun e w' => e = .returned (.tuple #[]) ∧ ∃ v' vo', PF w0 B pb db 0 { a with f := 72 } pl many (acts ++ [{ a with f := 72, k := 4, pv := v' }]) vo' bv w' ∧ w'.ownsRow w.heap.size 3 1 v' pl.length (ints pl) := by
  have H := Hd.mk (seqH_calls h hp ha)
  have x1 := h.c 1
  change w.cell? ⟨pb, 1, none⟩ = some (.int .i64 4) at x1
  clear h
  go_enter Tryd.func27, Tryd.ntmps27
  go_wp2_with fail
  refine H.out.mono ?_
  rintro e w1 ⟨rfl, h1⟩
  have HP := Hd.mk h1
  clear h1
  go_wp2_with fail
  go_end0
  exact ⟨rfl, HP.out⟩
end
end Go.Proofs.YtnolkpknoljacaaDoor
