/- The parser's state in memory; its leaves. -/
import Derived.Test.YtnolkpknoljacaaDoorVa
set_option linter.unusedVariables false
set_option linter.unusedSimpArgs false
namespace Go.Proofs.YtnolkpknoljacaaDoor
open Go.RowKit

theorem box_store {w : World} {b j : Nat} {cs : Array Value} {T : TypeId} {x : Value} (h : w.heap[b]? = some (.cells cs T (0, 0))) : (w.setCell ⟨b, j, none⟩ x).heap[b]? = some (.cells (cs.setIfInBounds j x) T (0, 0)) := by
  simp [World.setCell, Array.getElem?_modify, h]
/-- Integers of an []int. -/
def ints (l : List Int) : List Value := l.map fun n => .int .i64 n
theorem ints_len (l : List Int) : (ints l).length = l.length := by simp [ints]
theorem ints_one (l : List Int) : ∀ u ∈ ints l, u.oneCell' = true := by
  intro u hu
  simp only [ints, List.mem_map] at hu
  obtain ⟨c, _, rfl⟩ := hu
  rfl
/-- An action, flat. -/
structure AV where
  k : Int
  r : Int
  f : Int
  p : Int
  pv : Value
  i : ByteArray
  t : ByteArray
def AV.cells (a : AV) : List Value := [.int .i64 a.k, .int .i32 a.r, .int .u8 a.f, .int .u8 a.p, a.pv, .string a.i, .string a.t]
def encA (l : List AV) : List Value := l.flatMap AV.cells
theorem encA_append (l m : List AV) : encA (l ++ m) = encA l ++ encA m := by simp [encA]
theorem encA_len (l : List AV) : (encA l).length = l.length * 7 := by
  induction l with
  | nil => rfl
  | cons a l ih => simp only [encA, List.flatMap_cons, List.length_append, List.length_cons] at ih ⊢; rw [ih]; simp [AV.cells]; omega
theorem Tryd.info29 : (Tryd.prog.info? 29).map (fun i => (i.zero, i.size, i.bytes)) = some (some (.agg #[.int .i64 0, .int .i32 0, .int .u8 0, .int .u8 0, .slice none 0 0, .string ⟨#[]⟩, .string ⟨#[]⟩]), 7, 72) := by kernel_rfl
theorem Tryd.info3 : (Tryd.prog.info? 3).map (fun i => (i.zero, i.size, i.bytes)) = some (some (.int .i64 0), 1, 8) := by kernel_rfl
theorem Tryd.info21 : (Tryd.prog.info? 21).map (fun i => (i.zero, i.size, i.bytes)) = some (some (.int .i32 0), 1, 4) := by kernel_rfl
theorem Tryd.info5 : (Tryd.prog.info? 5).map (fun i => (i.zero, i.size, i.bytes)) = some (some (.int .u8 0), 1, 1) := by kernel_rfl

def pcells (st : Int) (db : Nat) (a : AV) (many : Int) (vo : Value) : Array Value :=
  #[.bool true, .int .i64 st, .pointer (some ⟨db, 0, none⟩), .int .i64 a.k, .int .i32 a.r, .int .u8 a.f, .int .u8 a.p, a.pv, .string a.i, .string a.t, .int .i64 many, vo]
/-- The parser in memory: its own cells, its decoder's, the list of numbers that is put together, the actions. -/
structure PF (w0 : World) (B pb db : Nat) (st : Int) (a : AV) (pl : List Int) (many : Int) (acts : List AV) (vo bv : Value) (w : World) : Prop where
  box : w.heap[pb]? = some (.cells (pcells st db a many vo) 51 (0, 0))
  dec : w.heap[db]? = some (.cells #[.bool true, bv] 69 (0, 0))
  par : w.ownsRow B 3 1 a.pv pl.length (ints pl)
  out : w.ownsRow B 29 7 vo acts.length (encA acts)
  bel : Below B w0 w
  gp : B ≤ pb
  gd : B ≤ db
  sz : B ≤ w.heap.size
section
variable {w0 w w' : World} {B pb db : Nat} {st many : Int} {a : AV} {pl : List Int} {acts : List AV} {vo bv : Value}
theorem PF.below (h : PF w0 B pb db st a pl many acts vo bv w) (hb : Below w.heap.size w w') : PF w0 B pb db st a pl many acts vo bv w' :=
  ⟨box_touch h.box (Touch.of_below (S := fun _ => False) hb) id, box_touch h.dec (Touch.of_below (S := fun _ => False) hb) id, below_own h.par hb, below_own h.out hb, below_then h.bel h.sz hb, h.gp, h.gd, Nat.le_trans h.sz hb.size⟩
/-- A cell of the parser is written. -/
theorem PF.store (h : PF w0 B pb db st a pl many acts vo bv w) (j : Nat) (x : Value) {st' many' : Int} {a' : AV} {pl' : List Int} {acts' : List AV} {vo' : Value}
    (hc : (pcells st db a many vo).setIfInBounds j x = pcells st' db a' many' vo') (hp : w.ownsRow B 3 1 a'.pv pl'.length (ints pl')) (ho : w.ownsRow B 29 7 vo' acts'.length (encA acts')) :
    PF w0 B pb db st' a' pl' many' acts' vo' bv (w.setCell ⟨pb, j, none⟩ x) := by
  have hT := (Touch.refl (fun k => k = pb) w).setCell ⟨pb, j, none⟩ x rfl
  refine ⟨by rw [box_store h.box, hc], box_touch h.dec hT (ne_type h.dec h.box (by decide)), Touch.own hp hT (fun k hk e => own_not hp h.box (by decide) (by rw [hk, e])), Touch.own ho hT (fun k hk e => own_not ho h.box (by decide) (by rw [hk, e])), h.bel.setCell (p := ⟨pb, j, none⟩) h.gp x, h.gp, h.gd, by simpa using h.sz⟩
/-- What the decoder holds is written. -/
theorem PF.hold (h : PF w0 B pb db st a pl many acts vo bv w) (x : Value) : PF w0 B pb db st a pl many acts vo x (w.setCell ⟨db, 1, none⟩ x) := by
  have hT := (Touch.refl (fun k => k = db) w).setCell ⟨db, 1, none⟩ x rfl
  refine ⟨box_touch h.box hT (ne_type h.box h.dec (by decide)), by rw [box_store h.dec]; rfl, Touch.own h.par hT (fun k hk e => own_not h.par h.dec (by decide) (by rw [hk, e])), Touch.own h.out hT (fun k hk e => own_not h.out h.dec (by decide) (by rw [hk, e])), h.bel.setCell (p := ⟨db, 1, none⟩) h.gd x, h.gp, h.gd, by simpa using h.sz⟩
theorem PF.c (h : PF w0 B pb db st a pl many acts vo bv w) (j : Nat) : w.cell? ⟨pb, j, none⟩ = (pcells st db a many vo)[j]? := blk_cell h.box j
theorem PF.f (h : PF w0 B pb db st a pl many acts vo bv w) (j : Nat) : w.frozen? ⟨pb, j, none⟩ = false := blk_froz h.box j
end

theorem none_calls {w0 w : World} {B pb db : Nat} {st many : Int} {a : AV} {pl : List Int} {acts : List AV} {vo bv : Value} (h : PF w0 B pb db st a pl many acts vo bv w) :
    Calls Tryd.prog 26 #[.pointer (some ⟨pb, 0, none⟩)] w fun e w' => e = .returned (.bool false) ∧ w = w' := by
  have x0 : w.cell? ⟨pb, 0, none⟩ = some (.bool true) := h.c 0
  clear h
  go_enter Tryd.func26, Tryd.ntmps26
  go_wp2_with fail
  go_ret
  exact ⟨rfl, rfl⟩
theorem dnone_calls {w : World} {db : Nat} {bv : Value} (h : w.heap[db]? = some (.cells #[.bool true, bv] 69 (0, 0))) :
    Calls Tryd.prog 37 #[.pointer (some ⟨db, 0, none⟩)] w fun e w' => e = .returned (.bool false) ∧ w = w' := by
  have x0 : w.cell? ⟨db, 0, none⟩ = some (.bool true) := by rw [blk_cell h]; rfl
  clear h
  go_enter Tryd.func37, Tryd.ntmps37
  go_wp2_with fail
  go_ret
  exact ⟨rfl, rfl⟩
set_option maxRecDepth 100000 in
theorem runes0_calls (A : Option Addr) (c : Nat) (w : World) : Calls Tryd.prog 38 #[.slice A 0 c] w fun e w' => e = .returned (.slice none 0 0) ∧ w = w' := by
  go_enter Tryd.func38, Tryd.ntmps38
  go_wp2_with fail
  go_loop [0, 3] (fun b s => b = .slice A 0 c ∧ s = .slice none 0 0) (fun _ _ => 0)
  case atStart => exact ⟨rfl, rfl⟩
  case round =>
    obtain ⟨rfl, rfl⟩ := hrel
    go_wp2_with fail
    go_ret
    exact ⟨rfl, rfl⟩
theorem flush0_calls {w : World} {db : Nat} {A : Option Addr} {c : Nat} (h : w.heap[db]? = some (.cells #[.bool true, .slice A 0 c] 69 (0, 0))) :
    Calls Tryd.prog 24 #[.pointer (some ⟨db, 0, none⟩)] w fun e w' => e = .returned (.slice none 0 0) ∧ w' = w.setCell ⟨db, 1, none⟩ (.slice none 0 0) := by
  have H := Hd.mk h
  have x1 : w.cell? ⟨db, 1, none⟩ = some (.slice A 0 c) := by rw [blk_cell h]; rfl
  have f1 : w.frozen? ⟨db, 1, none⟩ = false := blk_froz h _
  clear h
  go_enter Tryd.func24, Tryd.ntmps24
  go_wp2_with (first | (go_at_call 37; refine (dnone_calls H.out).mono ?_; rintro e w' ⟨rfl, rfl⟩) | (go_at_call 38; refine (runes0_calls _ _ _).mono ?_; rintro e w' ⟨rfl, rfl⟩))
  go_ret
  exact ⟨rfl, rfl⟩
set_option maxRecDepth 100000 in
theorem print0_calls (p : Value) (w : World) : Calls Tryd.prog 23 #[p, .slice none 0 0] w fun e w' => e = .returned (.tuple #[]) ∧ w = w' := by
  go_enter Tryd.func23, Tryd.ntmps23
  go_wp2_with fail
  go_loop [8] (fun i => i = .int .i64 0) (fun _ => 0)
  case atStart => rfl
  case round =>
    subst hrel
    go_wp2_with fail
    go_end0
    exact ⟨rfl, rfl⟩
end Go.Proofs.YtnolkpknoljacaaDoor
