/- layout.cut. -/
import Derived.Test.YthpfhlhoekgpjaaDoorK
set_option linter.unusedVariables false
set_option linter.unusedSimpArgs false
namespace Go.Proofs.YthpfhlhoekgpjaaDoor
open Go.RowKit

/-- Where cut stands: the rows but the last, the last, the cursor's place. -/
structure CutS where
  done : List (List Cell)
  cur : List Cell
  row : Nat
  col : Nat
def cutPre (cols : Nat) (done : List (List Cell)) (cur : List Cell) (c : Cell) : List (List Cell) × List Cell :=
  let cur1 := if c.wd = 2 ∧ cur.length + 1 = cols then cur ++ [blankC] else cur
  if cur1.length = cols then (done ++ [cur1], []) else (done, cur1)
def cutStep (cols : Nat) (cursor : Int) (s : CutS) (i : Nat) (c : Cell) : CutS :=
  let p := cutPre cols s.done s.cur c
  { done := p.1, cur := p.2 ++ [c], row := if (i : Int) = cursor then p.1.length else s.row, col := if (i : Int) = cursor then p.2.length else s.col }
def cutRun (cols : Nat) (cursor : Int) (cells : List Cell) (k : Nat) : CutS := (List.range k).foldl (fun s i => cutStep cols cursor s i (cells.getD i blankC)) ⟨[], [], 0, 0⟩
def cutF (cells : List Cell) (cols : Nat) (cursor : Int) : List (List Cell) × Nat × Nat :=
  let s := cutRun cols cursor cells cells.length
  if cursor = cells.length then
    if s.cur.length = cols then (s.done ++ [s.cur, []], s.done.length + 1, 0) else (s.done ++ [s.cur], s.done.length, s.cur.length)
  else (s.done ++ [s.cur], s.row, s.col)
theorem cutRun_succ (cols : Nat) (cursor : Int) (cells : List Cell) (k : Nat) (hk : k < cells.length) : cutRun cols cursor cells (k + 1) = cutStep cols cursor (cutRun cols cursor cells k) k cells[k] := by
  unfold cutRun
  rw [List.range_succ, List.foldl_append]
  simp [List.getD, hk]

/-- All that a round of cut knows of the memory. -/
structure CInv (w0 : World) (B rb cb ab rc xb cols row col : Nat) (c : Cell) (done : List (List Cell)) (cur : List Cell) (g cap : Nat) (vsd : List Value) (vc : Value) (Bc : Nat) (w : World) : Prop where
  st : CSt w0 B rb g cap vsd vc done cur Bc w
  cols : w.heap[cb]? = some (.cells #[.int .i64 cols] 3 (0, 0))
  at_ : w.heap[ab]? = some (.cells #[.int .i64 row, .int .i64 col] 27 (0, 0))
  res : w.heap[rc]? = some (.cells #[.int .i64 0, .int .i64 0] 27 (0, 0))
  elem : w.heap[xb]? = some (.cells #[.string c.t, .int .i64 c.wd, .int .i64 c.a] 37 (0, 0))
  ne : vc.ownBlock ≠ some xb
  arc : ab ≠ rc
  geA : B ≤ ab
  geR : B ≤ rc
  geX : B ≤ xb
def CI (w0 : World) (B rb cb ab rc xb cols row col : Nat) (c : Cell) (done : List (List Cell)) (cur : List Cell) (w : World) : Prop :=
  ∃ g cap vsd vc Bc, CInv w0 B rb cb ab rc xb cols row col c done cur g cap vsd vc Bc w
theorem CInv.below {w0 : World} {B rb cb ab rc xb cols row col : Nat} {c : Cell} {done : List (List Cell)} {cur : List Cell} {g cap : Nat} {vsd : List Value} {vc : Value} {Bc : Nat} {w w' : World}
    (h : CInv w0 B rb cb ab rc xb cols row col c done cur g cap vsd vc Bc w) (hb : Below w.heap.size w w') : CInv w0 B rb cb ab rc xb cols row col c done cur g cap vsd vc Bc w' :=
  have T := Touch.of_below (S := fun _ => False) hb
  ⟨h.st.below hb, box_touch h.cols T id, box_touch h.at_ T id, box_touch h.res T id, box_touch h.elem T id, h.ne, h.arc, h.geA, h.geR, h.geX⟩
/-- The last row has grown. -/
theorem CInv.grown {w0 : World} {B rb cb ab rc xb cols row col : Nat} {c : Cell} {done : List (List Cell)} {cur cur' : List Cell} {g cap : Nat} {vsd : List Value} {vc v' : Value} {Bc n : Nat} {xs : List Value} {w w' : World}
    (h : CInv w0 B rb cb ab rc xb cols row col c done cur g cap vsd vc Bc w) (ho : w'.ownsRow Bc 37 3 v' n xs) (hn : n = cur'.length) (hx : xs = encs cur') (hg : w.grownBy w' vc.ownBlock) (hat : v'.ownBlock = vc.ownBlock ∨ ∃ q, v'.ownBlock = some q ∧ w.heap.size ≤ q) :
    CInv w0 B rb cb ab rc xb cols row col c done cur' g cap vsd v' Bc (w'.setCell ⟨g, done.length, none⟩ v') := by
  have hT := Touch.of_grown hg
  have S1 : Touch (fun k => k = g) w' (w'.setCell ⟨g, done.length, none⟩ v') := Touch.setCell (Touch.refl _ _) _ _ rfl
  have hgt := own_typed h.st.own (k := g) rfl
  have tw : ∀ (b : Nat) (cs : Array Value) (T : TypeId), T ≠ 37 → T ≠ 35 → w.heap[b]? = some (.cells cs T (0, 0)) → (w'.setCell ⟨g, done.length, none⟩ v').heap[b]? = some (.cells cs T (0, 0)) := by
    intro b cs T h1 h2 hb
    refine box_touch (box_touch hb hT (own_not h.st.cu hb (fun e => h1 e.symm))) S1 ?_
    intro e
    obtain ⟨cu1, hh⟩ := hgt
    rw [← e, hb] at hh
    injection hh with hh
    injection hh with _ h3
    exact h2 h3
  have hxl := box_lt h.elem
  refine ⟨h.st.grown ho hn hx hg hat, tw _ _ _ (by decide) (by decide) h.cols, tw _ _ _ (by decide) (by decide) h.at_, tw _ _ _ (by decide) (by decide) h.res, ?_, ?_, h.arc, h.geA, h.geR, h.geX⟩
  · refine box_touch (box_touch h.elem hT (fun e => h.ne e.symm)) S1 ?_
    intro e
    obtain ⟨cu1, hh⟩ := hgt
    rw [← e, h.elem] at hh
    injection hh with hh
    injection hh with _ h3
    exact absurd h3 (by decide)
  · rcases hat with e | ⟨q, e, hq⟩
    · rw [e]; exact h.ne
    · rw [e]; intro hh; injection hh with hh; omega
/-- An append of one cell to the last row, as one step of a region that draws its order. -/
theorem CInv.step_app {ops : Array Oper} {o : Oper} {a : Act} {K : Act → World → Prop} {Q : Exit → Act → World → Prop} {E : Prop}
    {w0 : World} {B rb cb ab rc xb cols row col : Nat} {c : Cell} {done : List (List Cell)} {cur : List Cell} {g cap : Nat} {vsd : List Value} {vc xv : Value} {Bc : Nat} {W0 W : World}
    (h : CInv w0 B rb cb ab rc xb cols row col c done cur g cap vsd vc Bc W0) (hb : Below W0.heap.size W0 W) (hlen : (cur.length + 1) * 32 ≤ 140737488355328) (c1 : Cell) (hrd : Rd W xv 1 (encs [c1]))
    (hg : o.guard = none) (s x : Operand) (ho : o.op = .call { callee := .builtin .append, args := #[s, x], argTypes := #[35, 35] }) (hs : a.eval s = vc) (hx : a.eval x = xv)
    (hK : ∀ v' w', (∃ A k, v' = .slice A (cur.length + 1) k) → w'.cell? ⟨g, done.length, none⟩ = some vc → w'.frozen? ⟨g, done.length, none⟩ = false →
      Hd (CInv w0 B rb cb ab rc xb cols row col c done (cur ++ [c1]) g cap vsd v' Bc (w'.setCell ⟨g, done.length, none⟩ v')) → K (a.put o.dst v') w') :
    if Region.wanted o (yielded ops a.tmps) = true then Oper.wp Tryd.prog o a W K Q else E := by
  have h1 := h.below hb
  refine step_app_rd hg s x 35 37 _ 3 32 ho Tryd.underlying35 Tryd.info37 rfl (by decide) (by decide) Bc vc xv cur.length 1 (encs cur) (encs [c1]) hs hx hrd (by simp [encs_length]) (encs_one _) h1.st.cu h1.st.lw hlen ?_
  intro v' w' hown hgr hat
  obtain ⟨l0, l1⟩ := h1.st.last
  have hT := Touch.of_grown hgr
  have hgl : some g ≠ vc.ownBlock := own_not h1.st.cu (own_typed h1.st.own (k := g) rfl).choose_spec (by decide)
  obtain ⟨A, k, hv⟩ := own_slice hown
  refine hK v' w' ⟨A, k, hv⟩ (hT.cell l0 hgl) ?_ ⟨h1.grown hown (by simp) (by rw [encs_append]) hgr hat⟩
  have hf := World.frozen?_of_block (a := ⟨g, done.length, none⟩) (hT.block g (own_lt h1.st.own g rfl).2 hgl)
  rw [hf]
  exact l1
end Go.Proofs.YthpfhlhoekgpjaaDoor
