/- A frame that came in, and what its bulk bounds. -/
import Derived.Test.YthpfhlhoekgpjaaDoorRp
import Derived.Deep.Slices
import Derived.DataReads
set_option linter.unusedVariables false
set_option linter.unusedSimpArgs false
set_option maxRecDepth 100000
namespace Go.Proofs.YthpfhlhoekgpjaaDoor
open Go.ChangeShapes Go.WideShapes Go.RowKit Go.Joins Go.ChangeAt Go.Deep

section
variable {H : Type} {enc : TypeId × Value → H} {W : World}
theorem bulkAll_snoc (l : List (DataW H)) (d : DataW H) : Rows.uptoBulkAll (l ++ [d]) = Rows.uptoBulkAll l + Rows.uptoBulk d := by
  induction l with
  | nil => simp [Rows.uptoBulkAll]
  | cons x l ih => simp only [List.cons_append, Rows.uptoBulkAll, ih]; omega
theorem bulk_mem {d : DataW H} {l : List (DataW H)} (h : d ∈ l) : Rows.uptoBulk d ≤ Rows.uptoBulkAll l := by
  induction l with
  | nil => cases h
  | cons x r ih =>
    simp only [Rows.uptoBulkAll]
    rcases List.mem_cons.1 h with rfl | e
    · omega
    · have := ih e; omega
/-- How much the texts of a row take, and how many they are. -/
def rowBulk (l : List Cell) : Nat := (l.map fun c => c.t.size + 1).sum
theorem rowBulk_snoc (l : List Cell) (c : Cell) : rowBulk (l ++ [c]) = rowBulk l + (c.t.size + 1) := by simp [rowBulk]
theorem rowBulk_len (l : List Cell) : l.length ≤ rowBulk l := by
  induction l with
  | nil => simp [rowBulk]
  | cons c l ih => simp only [rowBulk, List.map_cons, List.sum_cons, List.length_cons] at ih ⊢; omega
theorem rowText_size (l : List Cell) : (rowText l).size ≤ rowBulk l := by
  have : ∀ (l : List Cell) (s : ByteArray), (l.foldl (fun s c => s ++ c.t) s).size ≤ s.size + rowBulk l := by
    intro l
    induction l with
    | nil => intro s; simp [rowBulk]
    | cons c l ih =>
      intro s
      have := ih (s ++ c.t)
      rw [ByteArray.size_append] at this
      simp only [List.foldl_cons, rowBulk, List.map_cons, List.sum_cons] at this ⊢
      omega
  have := this l ⟨#[]⟩
  have h0 : (⟨#[]⟩ : ByteArray).size = 0 := rfl
  rw [h0] at this
  unfold rowText
  omega
theorem rowBulk_take (l : List Cell) (k : Nat) : rowBulk (l.take k) ≤ rowBulk l := by
  have h : ∀ a b : List Cell, rowBulk (a ++ b) = rowBulk a + rowBulk b := fun a b => by simp [rowBulk]
  have := h (l.take k) (l.drop k)
  rw [List.take_append_drop] at this
  omega
/-- One cell that is read. -/
theorem cell_in {n : Nat} {cs : List Value} {y : DataW H × List MemPlace} (h : DataW.trod enc Tryd.prog W 0 (fun _ => true) true n 37 cs = some y) : ∃ c : Cell, cs = c.enc ∧ c.t.size + 1 ≤ Rows.uptoBulk y.1 := by
  obtain ⟨xs, m, _, hx, hl, hxl, hall⟩ := DataW.trod_struct Tryd.underlying37 h
  have hC : Tryd.prog.cellsOf 37 = 3 := by kernel_rfl
  rw [hC] at hl
  match cs, hl with
  | [v0, v1, v2], _ =>
  have h3 : xs.length = 3 := hxl
  match xs, h3 with
  | [y0, y1, y2], _ =>
  have k9 : Tryd.prog.cellsOf 9 = 1 := by kernel_rfl
  have k3 : Tryd.prog.cellsOf 3 = 1 := by kernel_rfl
  have a0 := hall 0 _ rfl
  have a1 := hall 1 _ rfl
  have a2 := hall 2 _ rfl
  simp [k9, k3] at a0 a1 a2
  obtain ⟨s, e0, r0, _⟩ := DataW.trod_string Tryd.underlying9 a0
  obtain ⟨z1, e1, _⟩ := DataW.trod_int Tryd.underlying3 a1
  obtain ⟨z2, e2, _⟩ := DataW.trod_int Tryd.underlying3 a2
  simp only [List.cons.injEq, and_true] at e0 e1 e2
  subst e0 e1 e2 r0 hx
  refine ⟨⟨s, z1, z2⟩, rfl, ?_⟩
  simp only [List.map_cons, Rows.uptoBulk, Rows.uptoBulkAll]
  have : s.data.toList.length = s.size := rfl
  omega
/-- A row that is read. -/
theorem cells_in {n : Nat} {c : Value} {y : DataW H × List MemPlace} (h : DataW.trod enc Tryd.prog W 0 (fun _ => true) true n 35 [c] = some y) : ∃ l : List Cell, RC W c l ∧ rowBulk l ≤ Rows.uptoBulk y.1 := by
  rcases open_slice Tryd.underlying35 h with ⟨hcs, hx⟩ | ⟨a, len, cap, m, n', D, Pl, hcs, _, hl, hm, hmm, hx, hel⟩
  · simp only [List.cons.injEq, and_true] at hcs
    subst hcs
    exact ⟨[], ⟨none, 0, rfl, Nat.le_refl _, Nat.zero_le _, .inl rfl⟩, by simp [rowBulk]⟩
  · simp only [List.cons.injEq, and_true] at hcs
    subst hcs
    simp only [if_true] at hmm
    have hC : Tryd.prog.cellsOf 37 = 3 := by kernel_rfl
    rw [hC] at hel
    have key : ∀ k, k ≤ len → ∃ l : List Cell, l.length = k ∧ (∀ j u, (encs l)[j]? = some u → W.cell? (a.add j) = some u) ∧ rowBulk l ≤ Rows.uptoBulkAll ((List.range k).map D) := by
      intro k
      induction k with
      | zero => intro _; exact ⟨[], rfl, by simp, by simp [rowBulk]⟩
      | succ k ih =>
        intro hk
        obtain ⟨l, h1, h2, h3⟩ := ih (by omega)
        obtain ⟨cs', hc, ht⟩ := hel k (by omega)
        obtain ⟨cc, rfl, hb⟩ := cell_in ht
        obtain ⟨_, _, hat⟩ := World.cells?_some hc
        refine ⟨l ++ [cc], by simp [h1], ?_, ?_⟩
        · intro j u hu
          rw [encs_append] at hu
          have hle : (encs l).length = k * 3 := by rw [encs_length, h1]
          rcases Nat.lt_or_ge j (k * 3) with hj | hj
          · rw [List.getElem?_append_left (by omega)] at hu
            exact h2 j u hu
          · rw [List.getElem?_append_right (by omega), hle] at hu
            have hj3 : j - k * 3 < 3 := by
              have := (List.getElem?_eq_some_iff.1 hu).1
              simp [encs, Cell.enc] at this
              exact this
            have := hat (j - k * 3) hj3
            rw [Go.Deep.add_add] at this
            rw [show k * 3 + (j - k * 3) = j by omega] at this
            rw [this]
            simpa [encs] using hu
        · rw [List.range_succ, List.map_append, rowBulk_snoc]
          simp only [List.map_cons, List.map_nil]
          rw [bulkAll_snoc]
          exact Nat.add_le_add h3 hb
    obtain ⟨l, h1, h2, h3⟩ := key len (Nat.le_refl _)
    refine ⟨l, ⟨some a, cap, by rw [h1], by omega, hm, ?_⟩, ?_⟩
    · by_cases h0 : l = []
      · left; rw [h0]; rfl
      · right
        have hl0 : 0 < (encs l).length := by rw [encs_length]; have := List.length_pos_iff.2 h0; omega
        obtain ⟨b, off, spot⟩ := a
        have hc0 := h2 0 _ (List.getElem?_eq_getElem hl0)
        have hspot : spot = none := by simpa [Addr.add] using World.cell?_spot hc0
        subst hspot
        exact ⟨b, off, rfl, fun j u hu => by have := h2 j u hu; rwa [add_plain] at this⟩
    · subst hx
      simp only [Rows.uptoBulk]
      omega
/-- Rows that are read. -/
theorem rows_in {n : Nat} {c : Value} {y : DataW H × List MemPlace} (h : DataW.trod enc Tryd.prog W 0 (fun _ => true) true n 25 [c] = some y) : ∃ ll : List (List Cell), RR W c ll ∧ ll.length ≤ Rows.uptoBulk y.1 ∧ ∀ l ∈ ll, rowBulk l ≤ Rows.uptoBulk y.1 := by
  rcases open_slice Tryd.underlying25 h with ⟨hcs, hx⟩ | ⟨a, len, cap, m, n', D, Pl, hcs, _, hl, hm, hmm, hx, hel⟩
  · simp only [List.cons.injEq, and_true] at hcs
    subst hcs
    exact ⟨[], ⟨[], ⟨none, 0, rfl, Nat.le_refl _, Nat.zero_le _, .inl rfl⟩, rfl, trivial⟩, by simp, by simp⟩
  · simp only [List.cons.injEq, and_true] at hcs
    subst hcs
    simp only [if_true] at hmm
    have hC : Tryd.prog.cellsOf 35 = 1 := by kernel_rfl
    rw [hC] at hel
    have key : ∀ k, k ≤ len → ∃ (vs : List Value) (ll : List (List Cell)), vs.length = k ∧ ll.length = k ∧ (∀ j u, vs[j]? = some u → W.cell? (a.add j) = some u) ∧ All2 (RC W) vs ll ∧ (∀ l ∈ ll, rowBulk l ≤ Rows.uptoBulkAll ((List.range k).map D)) := by
      intro k
      induction k with
      | zero => intro _; exact ⟨[], [], rfl, rfl, by simp, trivial, by simp⟩
      | succ k ih =>
        intro hk
        obtain ⟨vs, ll, h1, h1', h2, h3, h4⟩ := ih (by omega)
        obtain ⟨cs', hc, ht⟩ := hel k (by omega)
        obtain ⟨_, hlen, hat⟩ := World.cells?_some hc
        match cs', hlen with
        | [u0], _ =>
        obtain ⟨l, hr, hb⟩ := cells_in ht
        refine ⟨vs ++ [u0], ll ++ [l], by simp [h1], by simp [h1'], ?_, h3.append ⟨hr, trivial⟩, ?_⟩
        · intro j u hu
          rcases Nat.lt_or_ge j k with hj | hj
          · rw [List.getElem?_append_left (by omega)] at hu
            exact h2 j u hu
          · have hjk : j = k := by
              have := (List.getElem?_eq_some_iff.1 hu).1
              simp at this
              omega
            subst hjk
            rw [List.getElem?_append_right (by omega), h1, Nat.sub_self] at hu
            have := hat 0 (by omega)
            rw [Go.Deep.add_add, Nat.mul_one, Nat.add_zero] at this
            rw [this]
            exact hu
        · intro q hq
          rw [List.range_succ, List.map_append]
          simp only [List.map_cons, List.map_nil]
          rw [bulkAll_snoc]
          rcases List.mem_append.1 hq with hq | hq
          · have := h4 q hq; omega
          · rw [List.mem_singleton.1 hq]
            simp only at hb
            omega
    obtain ⟨vs, ll, h1, h1', h2, h3, h4⟩ := key len (Nat.le_refl _)
    have hlb : len ≤ Rows.uptoBulkAll ((List.range len).map D) := by
      have one : ∀ d : DataW H, 1 ≤ Rows.uptoBulk d := by
        intro d
        cases d with
        | lit l => cases l <;> simp [Rows.uptoBulk]
        | _ => simp [Rows.uptoBulk]
      have : ∀ l : List (DataW H), l.length ≤ Rows.uptoBulkAll l := by
        intro l
        induction l with
        | nil => simp [Rows.uptoBulkAll]
        | cons x r ih => have := one x; simp only [Rows.uptoBulkAll, List.length_cons]; omega
      have := this ((List.range len).map D)
      simpa using this
    subst hx
    refine ⟨ll, ⟨vs, ⟨some a, cap, by rw [h1'], by omega, hm, ?_⟩, by omega, h3⟩, ?_, ?_⟩
    · by_cases h0 : vs = []
      · left; exact h0
      · right
        have hl0 : 0 < vs.length := List.length_pos_iff.2 h0
        obtain ⟨b, off, spot⟩ := a
        have hc0 := h2 0 _ (List.getElem?_eq_getElem hl0)
        have hspot : spot = none := by simpa [Addr.add] using World.cell?_spot hc0
        subst hspot
        exact ⟨b, off, rfl, fun j u hu => by have := h2 j u hu; rwa [add_plain] at this⟩
    · simp only [Rows.uptoBulk]
      omega
    · intro l hl
      have := h4 l hl
      simp only [Rows.uptoBulk]
      omega
theorem array4 {α : Type} {cs : Array α} (h : cs.size = 4) : ∃ c0 c1 c2 c3, cs = #[c0, c1, c2, c3] := by
  obtain ⟨l⟩ := cs
  match l, h with
  | [c0, c1, c2, c3], _ => exact ⟨c0, c1, c2, c3, rfl⟩
/-- A frame that came in. -/
theorem frame_in {base : Nat} {v : Value} {d : DataW H} {p : List MemPlace} (hv : Value.okWide Tryd.prog W .any base 29 v) (h : DataW.Trod enc Tryd.prog W 0 (fun _ => true) true 29 v d p) :
    ∃ (rv : Value) (rows : List (List Cell)) (r c a : Int), v = .agg #[rv, .int .i64 r, .int .i64 c, .int .i64 a] ∧ RR W rv rows ∧ rows.length ≤ Rows.uptoBulk d ∧ ∀ l ∈ rows, rowBulk l ≤ Rows.uptoBulk d := by
  obtain ⟨cs, rfl, hsz⟩ := okWide_struct Tryd.underlying29 hv
  obtain ⟨c0, c1, c2, c3, rfl⟩ := array4 (hsz.trans (by kernel_rfl))
  obtain ⟨fuel, hf⟩ := h
  obtain ⟨xs, n, _, hx, hl, hxl, hall⟩ := DataW.trod_struct Tryd.underlying29 hf
  have h3 : xs.length = 3 := hxl
  match xs, h3 with
  | [y0, y1, y2], _ =>
  have k25 : Tryd.prog.cellsOf 25 = 1 := by kernel_rfl
  have k27 : Tryd.prog.cellsOf 27 = 2 := by kernel_rfl
  have k3 : Tryd.prog.cellsOf 3 = 1 := by kernel_rfl
  have a0 := hall 0 _ rfl
  have a1 := hall 1 _ rfl
  have a2 := hall 2 _ rfl
  simp [Value.cells, k25, k27, k3] at a0 a1 a2
  obtain ⟨zs, n1, _, hz, hzl, hzz, hall1⟩ := DataW.trod_struct Tryd.underlying27 a1
  have h2 : zs.length = 2 := hzz
  match zs, h2 with
  | [z0, z1], _ =>
  have b0 := hall1 0 _ rfl
  have b1 := hall1 1 _ rfl
  simp [k3] at b0 b1
  obtain ⟨i1, e1, _⟩ := DataW.trod_int Tryd.underlying3 b0
  obtain ⟨i2, e2, _⟩ := DataW.trod_int Tryd.underlying3 b1
  obtain ⟨i3, e3, _⟩ := DataW.trod_int Tryd.underlying3 a2
  simp only [List.cons.injEq, and_true] at e1 e2 e3
  subst e1 e2 e3
  obtain ⟨ll, hr, hlen, hbk⟩ := rows_in a0
  simp only [Prod.mk.injEq] at hx
  obtain ⟨hx1, _⟩ := hx
  subst hx1
  refine ⟨c0, ll, i1, i2, i3, rfl, hr, ?_, ?_⟩
  · simp only [List.map_cons, Rows.uptoBulk, Rows.uptoBulkAll]; omega
  · intro l hl
    have := hbk l hl
    simp only [List.map_cons, Rows.uptoBulk, Rows.uptoBulkAll]
    omega
end
end Go.Proofs.YthpfhlhoekgpjaaDoor
