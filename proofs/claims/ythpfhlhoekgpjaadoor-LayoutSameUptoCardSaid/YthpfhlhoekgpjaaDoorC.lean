/- ucell.Cells$1, join and Cells. -/
import Derived.Test.YthpfhlhoekgpjaaDoorB
set_option linter.unusedVariables false
set_option linter.unusedSimpArgs false
namespace Go.Proofs.YthpfhlhoekgpjaaDoor
open Go.RowKit

/-! ### A variable of one cell that a closure captured -/
theorem box_cell {w : World} {b : Nat} {v : Value} {T : TypeId} (h : w.heap[b]? = some (.cells #[v] T (0, 0))) : w.cell? ⟨b, 0, none⟩ = some v ∧ w.frozen? ⟨b, 0, none⟩ = false := by
  constructor
  · simp [World.cell?, h]
  · simp [World.frozen?, h]
theorem box_set {w : World} {b : Nat} {v u : Value} {T : TypeId} (h : w.heap[b]? = some (.cells #[v] T (0, 0))) : (w.setCell ⟨b, 0, none⟩ u).heap[b]? = some (.cells #[u] T (0, 0)) := by
  simp [World.setCell, Array.getElem?_modify, h]
theorem box_lt {w : World} {b : Nat} {o : Obj} (h : w.heap[b]? = some o) : b < w.heap.size := (Array.getElem?_eq_some_iff.1 h).1
theorem box_touch {S : Nat → Prop} {w w' : World} {b : Nat} {o : Obj} (h : w.heap[b]? = some o) (hg : Touch S w w') (hn : ¬ S b) : w'.heap[b]? = some o := (hg.block b (box_lt h) hn).trans h

def oneC (t : ByteArray) : Cell := ⟨t, 1, 0⟩
def strs (ts : List ByteArray) : List Value := ts.map .string

set_option maxRecDepth 100000 in
set_option maxHeartbeats 1000000 in
theorem one_calls (B ob : Nat) (v tv : Value) (l : List Cell) (ts : List ByteArray) (w : World)
    (hbox : w.heap[ob]? = some (.cells #[v] 35 (0, 0))) (hob : v.ownBlock ≠ some ob) (hown : OC w B v l) (ht : Rd w tv ts.length (strs ts))
    (ht1 : blk tv ≠ some ob) (ht2 : ∀ k, blk tv = some k → v.ownBlock ≠ some k) (hB : B ≤ w.heap.size) (hsz : (l.length + ts.length) * 32 ≤ 140737488355328) :
    Calls Tryd.prog 39 #[tv, .pointer (some ⟨ob, 0, none⟩)] w fun e w' => e = .returned (.tuple #[]) ∧
      ∃ v', w'.heap[ob]? = some (.cells #[v'] 35 (0, 0)) ∧ OC w' B v' (l ++ ts.map oneC) ∧ v'.ownBlock ≠ some ob ∧ (v'.ownBlock = v.ownBlock ∨ ∃ g, v'.ownBlock = some g ∧ w.heap.size ≤ g) ∧ Touch (fun k => k = ob ∨ some k = v.ownBlock) w w' := by
  obtain ⟨A, c, rfl, h1, h2, h3⟩ := ht
  go_enter Tryd.func39, Tryd.ntmps39
  go_wp2
  go_loopw [7] (fun i wr => ∃ (k : Nat) (vr : Value), k ≤ ts.length ∧ i = .int .i64 k ∧ Hd (wr.heap[ob]? = some (.cells #[vr] 35 (0, 0)) ∧ OC wr B vr (l ++ (ts.map oneC).take k) ∧ vr.ownBlock ≠ some ob ∧ (vr.ownBlock = v.ownBlock ∨ ∃ g, vr.ownBlock = some g ∧ w.heap.size ≤ g) ∧ Touch (fun k => k = ob ∨ some k = v.ownBlock) w wr)) (fun i _ => ts.length - (intOf i).toNat)
  case atStart => exact ⟨0, v, Nat.zero_le _, rfl, ⟨hbox, by simpa using hown, hob, .inl rfl, Touch.refl _ _⟩⟩
  case round =>
    obtain ⟨k, vr, hk, rfl, HR⟩ := hrel
    by_cases hlt : k < ts.length
    · obtain ⟨b, q, rfl, hc⟩ : ∃ b o, A = some ⟨b, o, none⟩ ∧ ∀ j u, (strs ts)[j]? = some u → w.cell? ⟨b, o + j, none⟩ = some u := by
        rcases h3 with h3 | h3
        · simp only [strs, List.map_eq_nil_iff] at h3; subst h3; simp at hlt
        · exact h3
      have g0 : wr.cell? ⟨b, q + k, none⟩ = some (.string (ts.getD k default)) := by
        refine HR.out.2.2.2.2.cell (hc k _ (by simp [strs, hlt])) ?_
        rintro (e | e)
        · exact ht1 (by simp [blk]; exact e)
        · exact ht2 b rfl e.symm
      obtain ⟨b0, b1⟩ := box_cell HR.out.1
      have HC := Hd.mk hc
      have H1 := Hd.mk h1
      have H2 := Hd.mk h2
      have HO := Hd.mk hown
      have HX := Hd.mk hbox
      clear hc h3 ht2 hown hbox ht1 hob
      have HOW := HR.out.2.1
      have HOWh := Hd.mk HOW
      clear HOW
      have hBr : B ≤ wr.heap.size := Nat.le_trans hB HR.out.2.2.2.2.size
      have hlen : (l ++ (ts.map oneC).take k).length + 1 ≤ l.length + ts.length := by simp; omega
      go_wp2_with (at_builtin; refine app_lit rfl (.tmp 11) (.tmp 14) 35 37 _ 3 32 rfl Tryd.underlying35 Tryd.info37 rfl (by decide) (by decide) B vr _ 1 _ _ rfl rfl rfl ?h1 HOWh.out hBr ?hb ?_)
      case h1 => exact ⟨rfl, rfl, rfl⟩
      case hb => omega
      intro v1 w1 hown1 hgr1 hat1
      have hne1 : ¬ (some ob = vr.ownBlock) := fun e => HR.out.2.2.1 e.symm
      have hbox1 := box_touch HR.out.1 (Touch.of_grown hgr1) hne1
      obtain ⟨b2, b3⟩ := box_cell hbox1
      clear b0 b1 g0
      obtain ⟨A1, c1, rfl⟩ := own_slice hown1
      have HO1 := OC.mk (l := l ++ (ts.map oneC).take (k+1)) hown1 (by simp; omega) (by
        rw [List.take_succ_eq_append_getElem (by simpa using hlt), ← List.append_assoc, encs_append]
        simp [encs_append, encs_cons, Cell.enc, oneC])
      have HT1 := Hd.mk (And.intro HO1 (And.intro hgr1 (And.intro hat1 hbox1)))
      clear hown1 hgr1 hat1 hbox1 hne1 HO1
      go_wp2_with fail
      go_roundw
      case rel =>
        obtain ⟨x1, x2, x3, x4⟩ := HT1.out
        obtain ⟨r1, r2, r3, r4, r5⟩ := HR.out
        have hobl := box_lt r1
        have hne : (Value.slice A1 (l.length + k + 1) c1).ownBlock ≠ some ob := by
          rcases x3 with e | ⟨g, e, hg⟩
          · rw [e]; exact r3
          · rw [e]; intro h; injection h with h; omega
        refine ⟨k + 1, _, by omega, by go_num, ⟨box_set x4, Touch.own x1 (Touch.setCell (S := fun k => k = ob) (Touch.refl _ _) _ _ rfl) (fun j hj e => hne (by rw [hj, e])), hne, ?_, ?_⟩⟩
        · rcases x3 with e | ⟨g, e, hg⟩
          · rw [e]; exact r4
          · exact .inr ⟨g, e, Nat.le_trans r5.size hg⟩
        · refine Touch.setCell (Touch.trans r5 (Touch.of_grown x2) ?_) _ _ (.inl rfl)
          intro j hj e
          rcases r4 with e' | ⟨g, e', hg⟩
          · rw [e'] at e; exact .inr e
          · rw [e'] at e; injection e with e; omega
      case measure => simp [intOf]; omega
    · go_wp2
      go_end0
      obtain ⟨r1, r2, r3, r4, r5⟩ := HR.out
      rw [List.take_of_length_le (by simp; omega)] at r2
      exact ⟨rfl, vr, r1, r2, r3, r4, r5⟩
end Go.Proofs.YthpfhlhoekgpjaaDoor
