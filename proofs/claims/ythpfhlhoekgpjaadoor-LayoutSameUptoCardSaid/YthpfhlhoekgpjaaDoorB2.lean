/- Rows of rows of cells. -/
import Derived.Test.YthpfhlhoekgpjaaDoorB
set_option linter.unusedVariables false
set_option linter.unusedSimpArgs false
namespace Go.Proofs.YthpfhlhoekgpjaaDoor
open Go.RowKit

/-- Two lists, element by element. -/
def All2 {α β : Type} (R : α → β → Prop) : List α → List β → Prop
  | [], [] => True
  | a :: xs, b :: ys => R a b ∧ All2 R xs ys
  | _, _ => False
theorem All2.length {α β : Type} {R : α → β → Prop} : ∀ {xs : List α} {ys : List β}, All2 R xs ys → xs.length = ys.length
  | [], [], _ => rfl
  | _ :: _, _ :: _, h => by simp [All2.length h.2]
  | [], _ :: _, h => h.elim
  | _ :: _, [], h => h.elim
theorem All2.imp {α β : Type} {R R' : α → β → Prop} (hr : ∀ a b, R a b → R' a b) : ∀ {xs : List α} {ys : List β}, All2 R xs ys → All2 R' xs ys
  | [], [], _ => trivial
  | _ :: _, _ :: _, h => ⟨hr _ _ h.1, All2.imp hr h.2⟩
  | [], _ :: _, h => h.elim
  | _ :: _, [], h => h.elim
theorem All2.append {α β : Type} {R : α → β → Prop} : ∀ {xs : List α} {ys : List β} {xs' : List α} {ys' : List β}, All2 R xs ys → All2 R xs' ys' → All2 R (xs ++ xs') (ys ++ ys')
  | [], [], _, _, _, h' => h'
  | _ :: _, _ :: _, _, _, h, h' => ⟨h.1, All2.append h.2 h'⟩
  | [], _ :: _, _, _, h, _ => h.elim
  | _ :: _, [], _, _, h, _ => h.elim
theorem All2.get {α β : Type} {R : α → β → Prop} : ∀ {xs : List α} {ys : List β}, All2 R xs ys → ∀ i (h1 : i < xs.length) (h2 : i < ys.length), R xs[i] ys[i]
  | _ :: _, _ :: _, h, 0, _, _ => h.1
  | _ :: _, _ :: _, h, i + 1, h1, h2 => All2.get h.2 i (by simpa using h1) (by simpa using h2)
  | [], [], _, _, h1, _ => by simp at h1
  | [], _ :: _, h, _, _, _ => h.elim
  | _ :: _, [], h, _, _, _ => h.elim

/-- The element types of two rows tell them apart. -/
theorem own_type_ne {w : World} {b b' e e' s s' n n' : Nat} {v v' : Value} {xs xs' : List Value} (h : w.ownsRow b e s v n xs) (h' : w.ownsRow b' e' s' v' n' xs') (hne : e ≠ e') : ∀ k, v.ownBlock = some k → v'.ownBlock ≠ some k := by
  intro k hk hk'
  rcases h.2 with ⟨rfl, _⟩ | ⟨g, cap, cur, rfl, _, hh, _⟩
  · simp [Value.ownBlock] at hk
  · rcases h'.2 with ⟨rfl, _⟩ | ⟨g', cap', cur', rfl, _, hh', _⟩
    · simp [Value.ownBlock] at hk'
    · simp [Value.ownBlock] at hk hk'
      subst hk hk'
      rw [hh] at hh'
      injection hh' with hh'
      injection hh' with _ ht
      exact hne ht
/-- Rows of cells, all of the call's own; their order is the outer row's. -/
def OR (w : World) (B : Nat) (v : Value) (ll : List (List Cell)) : Prop := ∃ vs, w.ownsRow B 35 1 v ll.length vs ∧ All2 (OC w B) vs ll
theorem OR.nil (w : World) (B : Nat) : OR w B (.slice none 0 0) [] := ⟨[], World.ownsRow_nil _ _ _ _, trivial⟩
theorem OC.below {w w1 : World} {B : Nat} {v : Value} {l : List Cell} (h : OC w B v l) (hb : Below w.heap.size w w1) : OC w1 B v l := below_own h hb
theorem OC.mono {w : World} {B B' : Nat} {v : Value} {l : List Cell} (h : OC w B v l) (hb : B' ≤ B) : OC w B' v l := own_mono h hb
theorem OR.below {w w1 : World} {B : Nat} {v : Value} {ll : List (List Cell)} (h : OR w B v ll) (hb : Below w.heap.size w w1) : OR w1 B v ll := by
  obtain ⟨vs, h1, h2⟩ := h
  exact ⟨vs, below_own h1 hb, h2.imp fun _ _ h => h.below hb⟩
theorem OR.mono {w : World} {B B' : Nat} {v : Value} {ll : List (List Cell)} (h : OR w B v ll) (hb : B' ≤ B) : OR w B' v ll := by
  obtain ⟨vs, h1, h2⟩ := h
  exact ⟨vs, own_mono h1 hb, h2.imp fun _ _ h => h.mono hb⟩
/-- Behind an append of rows to the outer row. -/
theorem OR.grown {w w1 : World} {B : Nat} {v v1 : Value} {ll ll' : List (List Cell)} {n : Nat} {vs vs' xs : List Value} (h1 : w.ownsRow B 35 1 v ll.length vs) (h2 : All2 (OC w B) vs ll) (h3 : All2 (OC w B) vs' ll') (hg : w.grownBy w1 v.ownBlock) (hown : w1.ownsRow B 35 1 v1 n xs) (hn : n = ll.length + ll'.length) (hx : xs = vs ++ vs') :
    OR w1 B v1 (ll ++ ll') := by
  subst hn hx
  have hk : ∀ (x : Value) (l : List Cell), OC w B x l → OC w1 B x l := fun x l hx => Touch.own hx (Touch.of_grown hg) (fun k hk e => own_type_ne hx h1 (by decide) k hk e.symm)
  exact ⟨vs ++ vs', by simpa using hown, (h2.imp hk).append (h3.imp hk)⟩
theorem slice_one {vs : List Value} {w : World} {B : Nat} {ll : List (List Cell)} (h : All2 (OC w B) vs ll) : ∀ u ∈ vs, u.oneCell' = true := by
  induction vs generalizing ll with
  | nil => simp
  | cons v vs ih =>
    cases ll with
    | nil => exact h.elim
    | cons l ll =>
      intro u hu
      rcases List.mem_cons.1 hu with rfl | hu
      · obtain ⟨A, c, e⟩ := own_slice h.1; rw [e]; rfl
      · exact ih h.2 u hu
end Go.Proofs.YthpfhlhoekgpjaaDoor
