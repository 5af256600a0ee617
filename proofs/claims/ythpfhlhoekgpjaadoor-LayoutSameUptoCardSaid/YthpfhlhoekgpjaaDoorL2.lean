/- layout.cut: what the walk keeps of the memory. -/
import Derived.Test.YthpfhlhoekgpjaaDoorL
set_option linter.unusedVariables false
set_option linter.unusedSimpArgs false
namespace Go.Proofs.YthpfhlhoekgpjaaDoor
open Go.RowKit

theorem CInv.next {w0 : World} {B rb cb ab rc xb cols row col : Nat} {c : Cell} {done : List (List Cell)} {cur : List Cell} {g cap : Nat} {vsd : List Value} {vc : Value} {Bc : Nat} {w : World}
    (h : CInv w0 B rb cb ab rc xb cols row col c done cur g cap vsd vc Bc w) (hc : cols ≤ 200) (hd : done.length ≤ 1000000) :
    Calls Tryd.prog 56 #[.pointer (some ⟨rb, 0, none⟩), .pointer (some ⟨cb, 0, none⟩)] w fun e w' => e = .returned (.tuple #[]) ∧ CI w0 B rb cb ab rc xb cols row col c (done ++ [cur]) [] w' := by
  refine (next_calls w0 B rb cb g cap cols vsd vc done cur Bc w h.st h.cols hc hd).mono ?_
  rintro e w' ⟨rfl, g', cap', vsd', vc', hC, hT⟩
  have tw : ∀ (b : Nat) (cs : Array Value) (T : TypeId), T ≠ 25 → T ≠ 35 → w.heap[b]? = some (.cells cs T (0, 0)) → w'.heap[b]? = some (.cells cs T (0, 0)) := by
    intro b cs T h1 h2 hb
    refine box_touch hb hT ?_
    rintro (e | e)
    · subst e
      have hh := h.st.box
      rw [hb] at hh
      injection hh with hh
      injection hh with _ h3
      exact h1 h3
    · subst e
      obtain ⟨cu1, hh⟩ := own_typed h.st.own (k := b) rfl
      rw [hb] at hh
      injection hh with hh
      injection hh with _ h3
      exact h2 h3
  have hxl := box_lt h.elem
  refine ⟨rfl, g', cap', vsd', vc', w.heap.size, hC, tw _ _ _ (by decide) (by decide) h.cols, tw _ _ _ (by decide) (by decide) h.at_, tw _ _ _ (by decide) (by decide) h.res, tw _ _ _ (by decide) (by decide) h.elem, ?_, h.arc, h.geA, h.geR, h.geX⟩
  intro hk
  have := (own_lt hC.cu xb hk).1
  omega

def CI0 (w0 : World) (B rb cb ab rc cols row col : Nat) (done : List (List Cell)) (cur : List Cell) (w : World) : Prop :=
  ∃ g cap vsd vc Bc, CSt w0 B rb g cap vsd vc done cur Bc w ∧ w.heap[cb]? = some (.cells #[.int .i64 cols] 3 (0, 0)) ∧ w.heap[ab]? = some (.cells #[.int .i64 row, .int .i64 col] 27 (0, 0)) ∧
    w.heap[rc]? = some (.cells #[.int .i64 0, .int .i64 0] 27 (0, 0)) ∧ ab ≠ rc ∧ B ≤ ab ∧ B ≤ rc
theorem ne_of_cell {w : World} {b o : Nat} {u : Value} (h : w.cell? ⟨b, o, none⟩ = some u) : b ≠ w.heap.size := Nat.ne_of_lt (World.block_lt_of_cell? w _ h)
theorem drewN_below (w : World) (n : Nat) : Below w.heap.size w (w.drewN n) := ⟨rfl, rfl, rfl, Nat.le_refl _, fun _ _ => rfl⟩
theorem CI.to0 {w0 : World} {B rb cb ab rc xb cols row col : Nat} {c : Cell} {done : List (List Cell)} {cur : List Cell} {w : World} (h : CI w0 B rb cb ab rc xb cols row col c done cur w) : CI0 w0 B rb cb ab rc cols row col done cur w := by
  obtain ⟨g, cap, vsd, vc, Bc, h⟩ := h
  exact ⟨g, cap, vsd, vc, Bc, h.st, h.cols, h.at_, h.res, h.arc, h.geA, h.geR⟩
theorem CI0.elem {w0 : World} {B rb cb ab rc cols row col : Nat} {done : List (List Cell)} {cur : List Cell} {w : World} (h : CI0 w0 B rb cb ab rc cols row col done cur w) (c : Cell) :
    CI w0 B rb cb ab rc w.heap.size cols row col c done cur (w.alloc (.cells #[.string c.t, .int .i64 c.wd, .int .i64 c.a] 37)) := by
  obtain ⟨g, cap, vsd, vc, Bc, h1, h2, h3, h4, h5, h6, h7⟩ := h
  have hb := below_alloc1 w (.cells #[.string c.t, .int .i64 c.wd, .int .i64 c.a] 37)
  have T := Touch.of_below (S := fun _ => False) hb
  refine ⟨g, cap, vsd, vc, Bc, h1.below hb, box_touch h2 T id, box_touch h3 T id, box_touch h4 T id, heap_alloc_new _ _, ?_, h5, h6, h7, Nat.le_trans h1.lB h1.lw⟩
  intro e
  have := (own_lt h1.cu _ e).2
  omega
theorem blk_froz {w : World} {b : Nat} {cs : Array Value} {T : TypeId} (h : w.heap[b]? = some (.cells cs T (0, 0))) (o : Nat) : w.frozen? ⟨b, o, none⟩ = false := by
  simp [World.frozen?, h]
theorem CI0.bel {w0 : World} {B rb cb ab rc cols row col : Nat} {done : List (List Cell)} {cur : List Cell} {w : World} (h : CI0 w0 B rb cb ab rc cols row col done cur w) : Below B w0 w := by
  obtain ⟨g, cap, vsd, vc, Bc, h, _⟩ := h
  exact h.bel
theorem heap_at {w : World} {o x : Obj} {k : Nat} (h : w.heap[k]? = some o) : (w.alloc x).heap[k]? = some o := box_touch h (Touch.of_below (S := fun _ => False) (below_alloc1 _ _)) id
theorem CI0.init (w : World) (cols : Nat) (MC : Array Value) (hmc : MC.size = cols * 3) (hc : cols ≤ 200) :
    CI0 w w.heap.size (w.heap.size + 1 + 1 + 1 + 1) w.heap.size (w.heap.size + 1 + 1 + 1 + 1 + 1) (w.heap.size + 1) cols 0 0 [] []
      ((((((w.alloc (.cells #[.int .i64 cols] 3)).alloc (.cells #[.int .i64 0, .int .i64 0] 27)).alloc (.cells MC 37)).alloc (.cells #[.slice (some ⟨w.heap.size + 1 + 1, 0, none⟩) 0 cols] 35)).alloc
        (.cells #[.slice (some ⟨w.heap.size + 1 + 1 + 1, 0, none⟩) 1 1] 25)).alloc (.cells #[.int .i64 0, .int .i64 0] 27)) := by
  have e1 : (w.alloc (.cells #[.int .i64 cols] 3)).heap.size = w.heap.size + 1 := by simp
  have e2 : ((w.alloc (.cells #[.int .i64 cols] 3)).alloc (.cells #[.int .i64 0, .int .i64 0] 27)).heap.size = w.heap.size + 1 + 1 := by simp
  have h0 := heap_alloc_new w (.cells #[.int .i64 cols] 3)
  have h1 := heap_alloc_new (w.alloc (.cells #[.int .i64 cols] 3)) (.cells #[.int .i64 0, .int .i64 0] 27)
  rw [e1] at h1
  have o2 := World.ownsRow_made (base := w.heap.size + 1 + 1) (e := 37) (size := 3) ((w.alloc (.cells #[.int .i64 cols] 3)).alloc (.cells #[.int .i64 0, .int .i64 0] 27)) MC cols (by omega) (by unfold maxLen; omega) hmc
  rw [e2] at o2
  generalize hW2 : ((w.alloc (.cells #[.int .i64 cols] 3)).alloc (.cells #[.int .i64 0, .int .i64 0] 27)).alloc (.cells MC 37) = W2 at *
  have e3 : W2.heap.size = w.heap.size + 1 + 1 + 1 := by rw [← hW2]; simp
  have bW2 : Below w.heap.size w W2 := by rw [← hW2]; exact ((((Below.refl _ _).alloc (Nat.le_refl _) _).alloc (by simp) _).alloc (by simp; omega) _)
  have h0' : W2.heap[w.heap.size]? = some (.cells #[.int .i64 cols] 3 (0, 0)) := by rw [← hW2]; exact heap_at (heap_at h0)
  have h1' : W2.heap[w.heap.size + 1]? = some (.cells #[.int .i64 0, .int .i64 0] 27 (0, 0)) := by rw [← hW2]; exact heap_at h1
  have o3 := World.ownsRow_lit (base := w.heap.size) (e := 35) (size := 1) W2 #[.slice (some ⟨w.heap.size + 1 + 1, 0, none⟩) 0 cols] 1 (by omega) (by unfold maxLen; omega) (by simp)
  rw [e3] at o3
  have h4 := heap_alloc_new (W2.alloc (.cells #[.slice (some ⟨w.heap.size + 1 + 1, 0, none⟩) 0 cols] 35)) (.cells #[.slice (some ⟨w.heap.size + 1 + 1 + 1, 0, none⟩) 1 1] 25)
  have h5 := heap_alloc_new ((W2.alloc (.cells #[.slice (some ⟨w.heap.size + 1 + 1, 0, none⟩) 0 cols] 35)).alloc (.cells #[.slice (some ⟨w.heap.size + 1 + 1 + 1, 0, none⟩) 1 1] 25)) (.cells #[.int .i64 0, .int .i64 0] 27)
  simp only [World.size_alloc, e3] at h4 h5
  refine ⟨w.heap.size + 1 + 1 + 1, 1, [], .slice (some ⟨w.heap.size + 1 + 1, 0, none⟩) 0 cols, w.heap.size + 1 + 1, ⟨heap_at h4, ((o3.alloc _).alloc _), trivial, OC.mk (((o2.alloc _).alloc _).alloc _) rfl rfl, by omega, by simp [e3] <;> omega, ?_, by omega⟩, heap_at (heap_at (heap_at h0')), h5, heap_at (heap_at (heap_at h1')), by omega, by omega, by omega⟩
  exact ((bW2.alloc (by omega) _).alloc (by simp; omega) _).alloc (by simp; omega) _

theorem two_set {w : World} {b : Nat} {v u v' u' : Value} {T : TypeId} (h : w.heap[b]? = some (.cells #[v, u] T (0, 0))) : ((w.setCell ⟨b, 0, none⟩ v').setCell ⟨b, 1, none⟩ u').heap[b]? = some (.cells #[v', u'] T (0, 0)) := by
  simp [World.setCell, Array.getElem?_modify, h]
theorem CSt.touch {w0 : World} {B rb g cap ab : Nat} {vsd : List Value} {vc : Value} {done : List (List Cell)} {cur : List Cell} {Bc : Nat} {w w' : World} {cs : Array Value} (h : CSt w0 B rb g cap vsd vc done cur Bc w)
    (hT : Touch (fun k => k = ab) w w') (ha : w.heap[ab]? = some (.cells cs 27 (0, 0))) (hB : B ≤ ab) : CSt w0 B rb g cap vsd vc done cur Bc w' := by
  refine ⟨box_touch h.box hT ?_, Touch.own h.own hT ?_, h.dn.imp (fun _ _ x => ⟨Touch.own x.1 hT (fun k hk e => own_not x.1 ha (by decide) (by rw [hk, e])), x.2⟩), Touch.own h.cu hT ?_, h.lB, Nat.le_trans h.lw hT.size, h.bel.trans (hT.below ?_ (Nat.le_trans h.lB h.lw)), h.ge⟩
  · intro e
    have hh := h.box
    rw [e, ha] at hh
    injection hh with hh
    injection hh with _ h3
    exact absurd h3 (by decide)
  · intro k hk e
    exact own_not h.own ha (by decide) (by rw [hk, e])
  · intro k hk e
    exact own_not h.cu ha (by decide) (by rw [hk, e])
  · intro k hk e
    omega
theorem CInv.place {w0 : World} {B rb cb ab rc xb cols row col : Nat} {c : Cell} {done : List (List Cell)} {cur : List Cell} {g cap : Nat} {vsd : List Value} {vc : Value} {Bc : Nat} {w : World}
    (h : CInv w0 B rb cb ab rc xb cols row col c done cur g cap vsd vc Bc w) (r q : Nat) : CInv w0 B rb cb ab rc xb cols r q c done cur g cap vsd vc Bc ((w.setCell ⟨ab, 0, none⟩ (.int .i64 r)).setCell ⟨ab, 1, none⟩ (.int .i64 q)) := by
  have hT : Touch (fun k => k = ab) w ((w.setCell ⟨ab, 0, none⟩ (.int .i64 r)).setCell ⟨ab, 1, none⟩ (.int .i64 q)) :=
    ((Touch.refl (fun k => k = ab) w).setCell ⟨ab, 0, none⟩ (.int .i64 r) rfl).setCell ⟨ab, 1, none⟩ (.int .i64 q) rfl
  have ne : ∀ (b : Nat) (cs : Array Value) (T : TypeId), T ≠ 27 → w.heap[b]? = some (.cells cs T (0, 0)) → ¬ b = ab := by
    intro b cs T hne hb e
    rw [e, h.at_] at hb
    injection hb with hb
    injection hb with _ h3
    exact hne h3.symm
  exact ⟨h.st.touch hT h.at_ h.geA, box_touch h.cols hT (ne _ _ _ (by decide) h.cols), two_set h.at_, box_touch h.res hT (fun e => h.arc e.symm), box_touch h.elem hT (ne _ _ _ (by decide) h.elem), h.ne, h.arc, h.geA, h.geR, h.geX⟩
theorem wrap_nat {n : Nat} (h : n ≤ 1000000000) : IntKind.i64.wrap (n : Int) = (n : Int) := by unfold IntKind.wrap; simp [IntKind.signed, IntKind.bits] <;> omega
theorem CI0.next {w0 : World} {B rb cb ab rc cols row col : Nat} {done : List (List Cell)} {cur : List Cell} {w : World}
    (h : CI0 w0 B rb cb ab rc cols row col done cur w) (hc : cols ≤ 200) (hd : done.length ≤ 1000000) :
    Calls Tryd.prog 56 #[.pointer (some ⟨rb, 0, none⟩), .pointer (some ⟨cb, 0, none⟩)] w fun e w' => e = .returned (.tuple #[]) ∧ CI0 w0 B rb cb ab rc cols row col (done ++ [cur]) [] w' := by
  obtain ⟨g, cap, vsd, vc, Bc, h1, h2, h3, h4, h5, h6, h7⟩ := h
  refine (next_calls w0 B rb cb g cap cols vsd vc done cur Bc w h1 h2 hc hd).mono ?_
  rintro e w' ⟨rfl, g', cap', vsd', vc', hC, hT⟩
  have tw : ∀ (b : Nat) (cs : Array Value) (T : TypeId), T ≠ 25 → T ≠ 35 → w.heap[b]? = some (.cells cs T (0, 0)) → w'.heap[b]? = some (.cells cs T (0, 0)) := by
    intro b cs T h8 h9 hb
    refine box_touch hb hT ?_
    rintro (e | e)
    · subst e
      have hh := h1.box
      rw [hb] at hh
      injection hh with hh
      injection hh with _ h3
      exact h8 h3
    · subst e
      obtain ⟨cu1, hh⟩ := own_typed h1.own (k := b) rfl
      rw [hb] at hh
      injection hh with hh
      injection hh with _ h3
      exact h9 h3
  exact ⟨rfl, g', cap', vsd', vc', w.heap.size, hC, tw _ _ _ (by decide) (by decide) h2, tw _ _ _ (by decide) (by decide) h3, tw _ _ _ (by decide) (by decide) h4, h5, h6, h7⟩
theorem CI0.below {w0 : World} {B rb cb ab rc cols row col : Nat} {done : List (List Cell)} {cur : List Cell} {w w' : World} (h : CI0 w0 B rb cb ab rc cols row col done cur w) (hb : Below w.heap.size w w') : CI0 w0 B rb cb ab rc cols row col done cur w' := by
  obtain ⟨g, cap, vsd, vc, Bc, h1, h2, h3, h4, h5, h6, h7⟩ := h
  have T := Touch.of_below (S := fun _ => False) hb
  exact ⟨g, cap, vsd, vc, Bc, h1.below hb, box_touch h2 T id, box_touch h3 T id, box_touch h4 T id, h5, h6, h7⟩
theorem ne_type {w : World} {a b : Nat} {cs ds : Array Value} {T U : TypeId} (ha : w.heap[a]? = some (.cells cs T (0, 0))) (hb : w.heap[b]? = some (.cells ds U (0, 0))) (h : T ≠ U) : ¬ a = b := by
  intro e
  rw [e, hb] at ha
  injection ha with ha
  injection ha with _ h3
  exact h h3.symm
theorem CI0.place {w0 : World} {B rb cb ab rc cols row col : Nat} {done : List (List Cell)} {cur : List Cell} {w : World} (h : CI0 w0 B rb cb ab rc cols row col done cur w) (r q : Nat) :
    CI0 w0 B rb cb ab rc cols r q done cur ((w.setCell ⟨ab, 0, none⟩ (.int .i64 r)).setCell ⟨ab, 1, none⟩ (.int .i64 q)) := by
  obtain ⟨g, cap, vsd, vc, Bc, h1, h2, h3, h4, h5, h6, h7⟩ := h
  have hT : Touch (fun k => k = ab) w ((w.setCell ⟨ab, 0, none⟩ (.int .i64 r)).setCell ⟨ab, 1, none⟩ (.int .i64 q)) :=
    ((Touch.refl (fun k => k = ab) w).setCell ⟨ab, 0, none⟩ (.int .i64 r) rfl).setCell ⟨ab, 1, none⟩ (.int .i64 q) rfl
  exact ⟨g, cap, vsd, vc, Bc, h1.touch hT h3 h6, box_touch h2 hT (ne_type h2 h3 (by decide)), two_set h3, box_touch h4 hT (fun e => h5 e.symm), h5, h6, h7⟩
/-- The rows, when cut is done, behind the store of its result. -/
theorem CI0.rows {w0 : World} {B rb cb ab rc cols row col : Nat} {done : List (List Cell)} {cur : List Cell} {w : World} (h : CI0 w0 B rb cb ab rc cols row col done cur w) :
    ∃ g cap, w.cell? ⟨rb, 0, none⟩ = some (.slice (some ⟨g, 0, none⟩) (done.length + 1) cap) ∧ (w.cell? ⟨ab, 0, none⟩ = some (.int .i64 row) ∧ w.cell? ⟨ab, 1, none⟩ = some (.int .i64 col)) ∧
      (w.cell? ⟨rc, 0, none⟩ = some (.int .i64 0) ∧ w.cell? ⟨rc, 1, none⟩ = some (.int .i64 0) ∧ w.frozen? ⟨rc, 0, none⟩ = false ∧ w.frozen? ⟨rc, 1, none⟩ = false) ∧
      Hd (∀ x y : Value, ∀ w', w' = (w.setCell ⟨rc, 0, none⟩ x).setCell ⟨rc, 1, none⟩ y → OR w' B (.slice (some ⟨g, 0, none⟩) (done.length + 1) cap) (done ++ [cur]) ∧ Below B w0 w') := by
  obtain ⟨g, cap, vsd, vc, Bc, h1, h2, h3, h4, h5, h6, h7⟩ := h
  refine ⟨g, cap, (box_cell h1.box).1, ⟨by rw [blk_cell h3]; rfl, by rw [blk_cell h3]; rfl⟩, ⟨by rw [blk_cell h4]; rfl, by rw [blk_cell h4]; rfl, blk_froz h4 _, blk_froz h4 _⟩, ⟨?_⟩⟩
  rintro x y w' rfl
  have hT : Touch (fun k => k = rc) w ((w.setCell ⟨rc, 0, none⟩ x).setCell ⟨rc, 1, none⟩ y) :=
    ((Touch.refl (fun k => k = rc) w).setCell ⟨rc, 0, none⟩ x rfl).setCell ⟨rc, 1, none⟩ y rfl
  have hC := h1.touch hT h4 h7
  refine ⟨⟨vsd ++ [vc], ?_, ?_⟩, hC.bel⟩
  · simpa using hC.own
  · exact All2.append (hC.dn.imp (fun _ _ x => x.1)) ⟨OC.mono hC.cu hC.lB, trivial⟩
end Go.Proofs.YthpfhlhoekgpjaaDoor
