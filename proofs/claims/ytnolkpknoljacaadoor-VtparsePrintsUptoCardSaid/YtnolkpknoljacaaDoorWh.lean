/- The bytes of a text, converted. -/
import Derived.Test.YtnolkpknoljacaaDoorWg
import Derived.Laws.IdiomStrings
import Derived.Laws.Cover4
set_option linter.unusedVariables false
set_option linter.unusedSimpArgs false
namespace Go.Proofs.YtnolkpknoljacaaDoor
open Go.RowKit Go.Lib

def r32 (ns : List Nat) : List Value := ns.map fun (n : Nat) => .int .i32 (n : Int)
theorem bl_list (s : ByteArray) : s.data.toList.map (fun b => b.toNat) = (List.range s.size).map (bAt s) := by
  obtain ⟨d⟩ := s
  have hz : (⟨d⟩ : ByteArray).size = d.size := rfl
  rw [hz]
  apply List.ext_getElem
  · rw [List.length_map, List.length_map, Array.length_toList, List.length_range]
  · intro i h1 h2
    have h3 : i < d.size := by rw [List.length_map, Array.length_toList] at h1; exact h1
    rw [List.getElem_map, List.getElem_map, List.getElem_range, Array.getElem_toList]
    show _ = (d[i]!).toNat
    rw [getElem!_pos d i h3]
theorem enc_list (r : Nat) : (Utf8.encode (r : Int)).data.toList.map (fun b => b.toNat) = eb r := bl_list (Utf8.encode (r : Int))
theorem runes_list (ns : List Nat) : (runesBytes (ns.map fun (n : Nat) => (n : Int))).data.toList.map (fun b => b.toNat) = tb ns := by
  unfold runesBytes tb
  have : ∀ (s : ByteArray), ((ns.map fun (n : Nat) => (n : Int)).foldl (fun r n => r ++ Utf8.encode n) s).data.toList.map (fun b => b.toNat) = s.data.toList.map (fun b => b.toNat) ++ ns.flatMap eb := by
    induction ns with
    | nil => intro s; simp
    | cons n ns ih =>
      intro s
      simp only [List.map_cons, List.foldl_cons, List.flatMap_cons]
      rw [ih, ← enc_list n]
      simp
  rw [this]
  simp
theorem conv_runes {B : Nat} (w : World) (v : Value) (ns : List Nat) (h : w.ownsRow B 21 1 v ns.length (r32 ns)) :
    ∃ S : ByteArray, (convert 22 9 v).run Tryd.prog w = .ok (.string S) w ∧ S.data.toList.map (fun b => b.toNat) = tb ns := by
  rcases h.2 with ⟨rfl, h0⟩ | ⟨g, cap, cur, rfl, _, hg, h1, h2, h3, h4⟩
  · obtain rfl : ns = [] := List.eq_nil_of_length_eq_zero h0
    exact ⟨.empty, run_convert_runes_nil w 22 9 21 0 0 Tryd.underlying22 Tryd.underlying21 Tryd.underlying9, rfl⟩
  · refine ⟨_, ?_, runes_list ns⟩
    have hz : (ns.map fun (n : Nat) => (n : Int)).take ns.length = ns.map fun (n : Nat) => (n : Int) := List.take_of_length_le (by simp)
    have := run_convert_runes (P := Tryd.prog) w 22 9 21 ⟨g, 0, none⟩ ns.length cap (ns.map fun (n : Nat) => (n : Int)) (by simp) Tryd.underlying22 Tryd.underlying21 Tryd.underlying9 (fun j hj => by
      have hj' : j < ns.length := by simpa using hj
      have hc := World.ownsRow.cellAt h j (by simpa [r32] using hj')
      rw [add_plain, Nat.zero_add]
      rw [hc]
      simp [r32, List.getD, hj'])
    rwa [hz] at this
theorem conv_bytes (w : World) (S : ByteArray) (ns : List Nat) (hS : S.data.toList.map (fun b => b.toNat) = tb ns) :
    ∃ W2 c, (convert 9 25 (.string S)).run Tryd.prog w = .ok (.slice (some ⟨w.heap.size, 0, none⟩) (tb ns).length c) W2 ∧ Below w.heap.size w W2 ∧ w.heap.size < W2.heap.size ∧
      ∀ (j b : Nat), (tb ns)[j]? = some b → W2.cell? ⟨w.heap.size, j, none⟩ = some (.int .u8 (b : Int)) := by
  have hl : (tb ns).length = S.size := by rw [← hS, List.length_map, Array.length_toList]; rfl
  refine ⟨_, grownCap w S.size 0 5, by rw [hl]; exact run_bytes_of_string w 9 25 5 S Tryd.underlying9 Tryd.underlying25 Tryd.underlying5, below_next (below_drew w) (below_alloc1 w.drew _), by simp, fun j b hj => ?_⟩
  have := World.cell?_alloc_mark w.drew (bytesRow S (grownCap w S.size 0 5)) 5 ((bytesRow S (grownCap w S.size 0 5)).size, (bytesRow S (grownCap w S.size 0 5)).size + 1) j
  refine Eq.trans this ?_
  rw [← hS] at hj
  simp only [List.getElem?_map, Option.map_eq_some_iff] at hj
  obtain ⟨x, hx, rfl⟩ := hj
  unfold bytesRow
  rw [Array.getElem?_append_left (by have := (List.getElem?_eq_some_iff.1 hx).1; simpa using this)]
  rw [Array.getElem?_toList] at hx
  simp [hx]

/-! What the law keeps. -/
def keepR (t : Int) : Prop := 32 ≤ t ∧ t ≠ 127 ∧ ¬ (128 ≤ t ∧ t ≤ 159) ∧ (t < 55296 ∨ 57343 < t) ∧ t ≤ 1114111
instance (t : Int) : Decidable (keepR t) := by unfold keepR; infer_instance
def keptL (ts : List Int) : List Nat := (ts.filter fun t => decide (keepR t)).map Int.toNat
theorem keptL_ok (ts : List Int) : ∀ r ∈ keptL ts, okR r := by
  intro r hr
  simp only [keptL, List.mem_map, List.mem_filter, decide_eq_true_eq] at hr
  obtain ⟨t, ⟨_, ht⟩, rfl⟩ := hr
  unfold keepR at ht
  unfold okR
  omega
theorem keptL_len (ts : List Int) : (keptL ts).length ≤ ts.length := by
  simp only [keptL, List.length_map]
  exact List.length_filter_le _ _
theorem keptL_take (ts : List Int) {k : Nat} (hk : k < ts.length) : keptL (ts.take (k + 1)) = keptL (ts.take k) ++ (if keepR ts[k] then [ts[k].toNat] else []) := by
  unfold keptL
  rw [List.take_add_one, List.getElem?_eq_getElem hk]
  simp only [Option.toList_some, List.filter_append, List.map_append]
  congr 1
  by_cases h : keepR ts[k] <;> simp [h]
theorem r32_app (a b : List Nat) : r32 (a ++ b) = r32 a ++ r32 b := by simp [r32]
theorem r32_len (a : List Nat) : (r32 a).length = a.length := by simp [r32]
end Go.Proofs.YtnolkpknoljacaaDoor
