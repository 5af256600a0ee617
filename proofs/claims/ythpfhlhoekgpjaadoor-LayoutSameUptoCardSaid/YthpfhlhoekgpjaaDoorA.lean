/- The leaves of layer 23's road: ucell.is, Control, in, Width. -/
import Derived.Test.YthpfhlhoekgpjaaDoorProg
import Derived.WalkKit
import Derived.KernelRfl
import Derived.Deep.QuietTactic
import Derived.BigQuiet
import Derived.Deep.LoopGhost

set_option linter.unusedVariables false
set_option linter.unusedSimpArgs false
namespace Go.Proofs.YthpfhlhoekgpjaaDoor
open Go.RowKit

/-- A fact that the walk's simp doesn't look into. -/
structure Hd (p : Prop) : Prop where mk :: (out : p)

def validB (r : Int) : Bool := (decide (0 ≤ r) && decide (r < 55296)) || (decide (57343 < r) && decide (r ≤ 1114111))
def controlB (r : Int) : Bool := (decide (0 ≤ r) && decide (r < 32)) || (decide (127 ≤ r) && decide (r ≤ 159))

theorem valid_calls (r : Int) (w : World) :
    Calls Tryd.prog 52 #[.int .i32 r] w fun e w' => e = .returned (.bool (validB r)) ∧ w = w' := by
  unfold validB
  go_enter Tryd.func52, Tryd.ntmps52
  go_wp2
  all_goals (go_ret; refine ⟨?_, rfl⟩; simp [*]; try omega)

theorem is_calls (r : Int) (w : World) :
    Calls Tryd.prog 33 #[.int .i32 r] w fun e w' => e = .returned (.bool (validB r)) ∧ w = w' := by
  go_enter Tryd.func33, Tryd.ntmps33
  go_wp2_with (go_at_call 52; refine (valid_calls _ _).mono ?_; rintro e w' ⟨rfl, rfl⟩)
  go_ret
  exact ⟨rfl, rfl⟩

theorem control_calls (r : Int) (w : World) :
    Calls Tryd.prog 17 #[.int .i32 r] w fun e w' => e = .returned (.bool (controlB r)) ∧ w = w' := by
  unfold controlB
  go_enter Tryd.func17, Tryd.ntmps17
  go_wp2
  all_goals (go_ret; refine ⟨?_, rfl⟩; simp [*]; try omega)
def inB (r : Int) (l : List (Int × Int)) : Bool := l.any fun s => decide (s.1 ≤ r) && decide (r ≤ s.2)

theorem retB {a b : Bool} (h : a = b) : Ending.returned (.bool a) = .returned (.bool b) := by rw [h]
theorem retI {k : IntKind} {a b : Int} (h : a = b) : Ending.returned (.int k a) = .returned (.int k b) := by rw [h]
theorem inB_succ (r : Int) (l : List (Int × Int)) (k : Nat) (h : k < l.length) : inB r (l.take (k+1)) = (inB r (l.take k) || (decide ((l.getD k (0,0)).1 ≤ r) && decide (r ≤ (l.getD k (0,0)).2))) := by
  unfold inB
  rw [List.take_succ_eq_append_getElem h, List.any_append]
  simp [List.getD, h]
theorem inB_true (r : Int) (l : List (Int × Int)) (k : Nat) (h : inB r (l.take k) = true) : inB r l = true := by
  unfold inB at *
  rw [List.any_eq_true] at *
  obtain ⟨x, hx, h⟩ := h
  exact ⟨x, List.mem_of_mem_take hx, h⟩

set_option maxRecDepth 100000 in
theorem in_calls (r : Int) (b c : Nat) (l : List (Int × Int)) (w : World) (hl : l.length ≤ 1000) (hc : l.length ≤ c) (hbl : b < w.heap.size)
    (h0 : ∀ j, j < l.length → w.cell? ⟨b, j * 2, none⟩ = some (.int .i32 (l.getD j (0,0)).1))
    (h1 : ∀ j, j < l.length → w.cell? ⟨b, j * 2 + 1, none⟩ = some (.int .i32 (l.getD j (0,0)).2)) :
    Calls Tryd.prog 34 #[.int .i32 r, .slice (some ⟨b, 0, none⟩) l.length c] w fun e w' => e = .returned (.bool (inB r l)) ∧ Below w.heap.size w w' := by
  have hu60 := Tryd.underlying60
  go_enter Tryd.func34, Tryd.ntmps34
  go_wp2
  go_loopw [9] (fun i wr => ∃ k : Nat, k ≤ l.length ∧ i = .int .i64 k ∧ Hd (inB r (l.take k) = false) ∧ Below w.heap.size w wr) (fun i _ => l.length - (intOf i).toNat)
  case atStart => exact ⟨0, Nat.zero_le _, rfl, ⟨rfl⟩, Below.refl _ _⟩
  case round =>
    obtain ⟨k, hk, rfl, hin, hb⟩ := hrel
    by_cases hlt : k < l.length
    · have g0 := (hb.cell (p := ⟨b, k * 2, none⟩) hbl).trans (h0 k hlt)
      have g1 := (hb.cell (p := ⟨b, k * 2 + 1, none⟩) hbl).trans (h1 k hlt)
      have hsz := hb.size
      have hs := inB_succ r l k hlt
      generalize l.getD k (0,0) = s at *
      obtain ⟨s1, s2⟩ := s
      simp only at g0 g1 hs
      have HS := Hd.mk hs
      clear hs h0 h1
      have hb2 : Below w.heap.size w (wr.alloc (Obj.cells #[Value.int IntKind.i32 s1, Value.int IntKind.i32 s2] 60)) := hb.alloc hb.size _
      by_cases c1 : s1 ≤ r
      · by_cases c2 : r ≤ s2
        · go_wp2
          go_ret
          refine ⟨retB ?_, hb2⟩
          rw [inB_true r l (k+1) (by rw [HS.out]; simp [c1, c2])]
        · go_wp2
          go_roundw
          case rel => exact ⟨k + 1, by omega, by go_num, ⟨by rw [HS.out, hin.out]; simp [c1, c2]⟩, hb2⟩
          case measure => simp [intOf]; omega
      · go_wp2
        go_roundw
        case rel => exact ⟨k + 1, by omega, by go_num, ⟨by rw [HS.out, hin.out]; simp [c1]⟩, hb2⟩
        case measure => simp [intOf]; omega
    · go_wp2
      go_ret
      refine ⟨retB ?_, hb⟩
      have := hin.out
      rw [List.take_of_length_le (by omega)] at this
      rw [this]

/-! ### The tables that the rows lay -/
def noneT : List (Int × Int) := [(0x300, 0x36f), (0x483, 0x489), (0x591, 0x5bd), (0x610, 0x61a), (0x64b, 0x65f), (0xe31, 0xe31), (0xe34, 0xe3a), (0xe47, 0xe4e), (0x1ab0, 0x1aff), (0x1dc0, 0x1dff), (0x200b, 0x200f), (0x20d0, 0x20ff), (0x3099, 0x309a), (0xfe00, 0xfe0f), (0xfe20, 0xfe2f)]
def wideT : List (Int × Int) := [(0x1100, 0x115f), (0x2e80, 0x303e), (0x3041, 0x33ff), (0x3400, 0x4dbf), (0x4e00, 0x9fff), (0xa000, 0xa4cf), (0xac00, 0xd7a3), (0xf900, 0xfaff), (0xfe30, 0xfe6f), (0xff00, 0xff60), (0xffe0, 0xffe6), (0x1f300, 0x1f64f), (0x1f900, 0x1f9ff), (0x20000, 0x3fffd)]
/-- A table of pairs lies at the head of a block. -/
structure Pairs (w : World) (b : Nat) (l : List (Int × Int)) : Prop where
  lt : b < w.heap.size
  fst : ∀ j, j < l.length → w.cell? ⟨b, j * 2, none⟩ = some (.int .i32 (l.getD j (0,0)).1)
  snd : ∀ j, j < l.length → w.cell? ⟨b, j * 2 + 1, none⟩ = some (.int .i32 (l.getD j (0,0)).2)
/-- The package-level tables of ucell hold what the program's text lays. -/
structure Laid (w : World) : Prop where
  none : Pairs w 0 noneT
  wide : Pairs w 1 wideT
theorem Pairs.below {B b : Nat} {w w' : World} {l : List (Int × Int)} (h : Pairs w b l) (hb : Below B w w') (hB : b < B) : Pairs w' b l :=
  ⟨Nat.lt_of_lt_of_le h.lt hb.size, fun j hj => (hb.cell (p := ⟨b, j * 2, _⟩) hB).trans (h.fst j hj), fun j hj => (hb.cell (p := ⟨b, j * 2 + 1, _⟩) hB).trans (h.snd j hj)⟩
theorem Laid.below {B : Nat} {w w' : World} (h : Laid w) (hb : Below B w w') (hB : 1 < B) : Laid w' := ⟨h.none.below hb (by omega), h.wide.below hb hB⟩
theorem Laid.lt {w : World} (h : Laid w) : 1 < w.heap.size := h.wide.lt
theorem Laid.step {w w' : World} (h : Laid w) (hb : Below w.heap.size w w') : Laid w' := h.below hb h.lt
/-- How wide a rune is. -/
def widthF (r : Int) : Int := if (!validB r || controlB r || inB r noneT) = true then 0 else if inB r wideT = true then 2 else 1

theorem in_none (r : Int) (w : World) (h : Laid w) : Calls Tryd.prog 34 #[.int .i32 r, .slice (some ⟨0, 0, none⟩) 15 15] w fun e w' => e = .returned (.bool (inB r noneT)) ∧ Below w.heap.size w w' :=
  in_calls r 0 15 noneT w (by decide) (by decide) h.none.lt h.none.fst h.none.snd
theorem in_wide (r : Int) (w : World) (h : Laid w) : Calls Tryd.prog 34 #[.int .i32 r, .slice (some ⟨1, 0, none⟩) 14 14] w fun e w' => e = .returned (.bool (inB r wideT)) ∧ Below w.heap.size w w' :=
  in_calls r 1 14 wideT w (by decide) (by decide) h.wide.lt h.wide.fst h.wide.snd
theorem widthF_bad {r : Int} (h : validB r = false) : widthF r = 0 := by simp [widthF, h]
theorem widthF_ctl {r : Int} (h : controlB r = true) : widthF r = 0 := by simp [widthF, h]

set_option maxRecDepth 100000 in
theorem width_calls (r : Int) (w : World) (hL : Laid w) :
    Calls Tryd.prog 13 #[.int .i32 r] w fun e w' => e = .returned (.int .i64 (widthF r)) ∧ Below w.heap.size w w' := by
  have HL := Hd.mk hL
  clear hL
  have HB := Below.refl w.heap.size w
  cases c1 : validB r with
  | false =>
    have HW := Hd.mk (widthF_bad c1)
    go_enter Tryd.func13, Tryd.ntmps13
    go_wp2_with (first | (go_at_call 33; refine (is_calls _ _).mono ?_; rintro e w' ⟨rfl, rfl⟩) | (go_at_call 17; refine (control_calls _ _).mono ?_; rintro e w' ⟨rfl, rfl⟩))
    all_goals (go_ret; exact ⟨retI HW.out.symm, HB⟩)
  | true =>
    cases c2 : controlB r with
    | true =>
      have HW := Hd.mk (widthF_ctl c2)
      go_enter Tryd.func13, Tryd.ntmps13
      go_wp2_with (first | (go_at_call 33; refine (is_calls _ _).mono ?_; rintro e w' ⟨rfl, rfl⟩) | (go_at_call 17; refine (control_calls _ _).mono ?_; rintro e w' ⟨rfl, rfl⟩))
      all_goals (go_ret; exact ⟨retI HW.out.symm, HB⟩)
    | false =>
      have HW := Hd.mk (show widthF r = if inB r noneT = true then 0 else if inB r wideT = true then 2 else 1 by simp [widthF, c1, c2])
      go_enter Tryd.func13, Tryd.ntmps13
      go_wp2_with (first | (go_at_call 33; refine (is_calls _ _).mono ?_; rintro e w' ⟨rfl, rfl⟩) | (go_at_call 17; refine (control_calls _ _).mono ?_; rintro e w' ⟨rfl, rfl⟩))
      refine (in_none r w HL.out).mono ?_
      rintro e w1 ⟨rfl, hb1⟩
      have HL1 := Hd.mk (HL.out.step hb1)
      cases c3 : inB r noneT with
      | true =>
        go_wp2
        all_goals (go_ret; exact ⟨retI (by rw [HW.out, c3]; rfl), hb1⟩)
      | false =>
        go_wp2_with fail
        refine (in_wide r w1 HL1.out).mono ?_
        rintro e w2 ⟨rfl, hb2⟩
        have hb3 : Below w.heap.size w w2 := hb1.trans (hb2.mono hb1.size)
        cases c4 : inB r wideT with
        | true =>
          go_wp2
          all_goals (go_ret; exact ⟨retI (by rw [HW.out, c3, c4]; rfl), hb3⟩)
        | false =>
          go_wp2
          all_goals (go_ret; exact ⟨retI (by rw [HW.out, c3, c4]; rfl), hb3⟩)
end Go.Proofs.YthpfhlhoekgpjaaDoor
