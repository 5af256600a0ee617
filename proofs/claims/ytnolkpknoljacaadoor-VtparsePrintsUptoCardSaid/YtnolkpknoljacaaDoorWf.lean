/- plain and one, in the ground state, at one byte of one rune. -/
import Derived.Test.YtnolkpknoljacaaDoorWe
set_option linter.unusedVariables false
set_option linter.unusedSimpArgs false
namespace Go.Proofs.YtnolkpknoljacaaDoor
open Go.RowKit Go.Lib

theorem OBy.below {B : Nat} {v : Value} {bs : List Int} {w w' : World} (h : OBy B v bs w) (hb : Below w.heap.size w w') : OBy B v bs w' := h.touch (Touch.of_below (S := fun _ => False) hb) (fun _ h => h.elim)
/-- Behind one more byte. -/
def Fed (w0 : World) (pb db : Nat) (st many : Int) (a : AV) (pl : List Int) (acts : List AV) (s : ByteArray) (r k : Nat) (w : World) : Prop :=
  ∃ acts' vo' bv', PF w0 w0.heap.size pb db st a pl many acts' vo' bv' w ∧ ((k + 1 < s.size ∧ acts' = acts ∧ OBy w0.heap.size bv' (byt s (k + 1)) w) ∨ (k + 1 = s.size ∧ acts' = acts ++ [pa r] ∧ OBy w0.heap.size bv' [] w))
section
variable {w0 w : World} {pb db : Nat} {st many : Int} {a : AV} {pl : List Int} {acts : List AV} {vo bv : Value}
set_option maxRecDepth 100000 in
set_option maxHeartbeats 4000000 in
theorem plain_calls (s : ByteArray) (r k : Nat) (hT : Tabs w0) (hE : REnc s r) (hk : k < s.size) (hr1 : 32 ≤ r) (hr2 : r < 127 ∨ 159 < r) (h : PF w0 w0.heap.size pb db st a pl many acts vo bv w) (ho : OBy w0.heap.size bv (byt s k) w) (ha : acts.length ≤ 1500000) :
    Calls Tryd.prog 41 #[.pointer (some ⟨pb, 0, none⟩), .int .u8 (bAt s k)] w fun e w' => e = .returned (.tuple #[]) ∧ Fed w0 pb db st many a pl acts s r k w' := by
  have HT := Hd.mk hT
  have x2 : w.cell? ⟨pb, 2, none⟩ = some (.pointer (some ⟨db, 0, none⟩)) := h.c 2
  by_cases h1 : s.size = 1
  · obtain rfl : k = 0 := by omega
    obtain ⟨hb, hr⟩ := hE.asc h1
    have HS := Hd.mk (show 0 + 1 = s.size by omega)
    rw [hb]
    have hd1 : decide ((128 : Int) ≤ (r : Int)) = false := by simp; omega
    have hd2 : decide ((r : Int) < 32) = false := by simp; omega
    have hd3 : decide ((r : Int) < 127) = true := by simp; omega
    have hwr : (IntKind.i32.wrap (r : Int)) = (r : Int) := by rw [IntKind.wrap]; simp [IntKind.bits, IntKind.signed]; omega
    have hb1 := below_alloc1 w (.cells #[.int .i32 r] 21)
    have HP1 := Hd.mk (h.below hb1)
    have HO1 : Hd (OBy w0.heap.size bv [] (w.alloc (.cells #[.int .i32 r] 21))) := ⟨(show OBy w0.heap.size bv [] w from ho).below hb1⟩
    have HQ := Hd.mk (World.cell?_alloc_new w #[.int .i32 r] 21 0)
    clear h ho hb1 x2 hb
    go_enter Tryd.func41, Tryd.ntmps41
    go_wp2_with fail
    refine (print1_calls r w.heap.size 1 (by omega) HQ.out HP1.out HO1.out ha).mono ?_
    rintro e w2 ⟨rfl, vo', hp2, ho2⟩
    have HR : Hd (Fed w0 pb db st many a pl acts s r 0 w2) := ⟨_, _, _, hp2, .inr ⟨HS.out, rfl, ho2⟩⟩
    clear hp2 ho2
    go_wp2_with fail
    go_end0
    exact ⟨rfl, HR.out⟩
  · have hs1 := hE.s1
    have hbig : 128 ≤ bAt s k := by
      rcases Nat.eq_zero_or_pos k with rfl | h0
      · exact hE.big (by omega)
      · exact hE.rest k h0 hk
    have hd1 : decide ((128 : Int) ≤ (bAt s k : Int)) = true := by simp; omega
    have HK := Hd.mk hk
    have HN1 := Hd.mk h1
    have HR2 := Hd.mk hr2
    have hb1 := below_alloc1 w (.cells #[.int .u8 (bAt s k)] 5)
    have HP1 := Hd.mk (h.below hb1)
    have HO1 := Hd.mk (ho.below hb1)
    have HQ := Hd.mk (World.cell?_alloc_new w #[.int .u8 (bAt s k)] 5 0)
    clear h ho hb1 hbig hk h1 hr2 hr1
    by_cases hfull : k + 1 < s.size
    · have HFU := Hd.mk hfull
      clear hfull
      go_enter Tryd.func41, Tryd.ntmps41
      go_wp2_with fail
      refine (dputA_calls s r k w.heap.size 1 HT.out hE HFU.out HQ.out HP1.out HO1.out).mono ?_
      rintro e w2 ⟨rfl, bv', hp2, ho2⟩
      have HR : Hd (Fed w0 pb db st many a pl acts s r k w2) := ⟨_, _, _, hp2, .inl ⟨HFU.out, rfl, ho2⟩⟩
      clear hp2 ho2 x2
      go_wp2_with fail
      refine (print0_calls _ _).mono ?_
      rintro e w3 ⟨rfl, rfl⟩
      go_wp2_with fail
      go_end0
      exact ⟨rfl, HR.out⟩
    · have HFU := Hd.mk (show k + 1 = s.size by have := HK.out; omega)
      clear hfull
      go_enter Tryd.func41, Tryd.ntmps41
      go_wp2_with fail
      refine (dputB_calls s r k w.heap.size 1 HT.out hE HFU.out HQ.out HP1.out HO1.out).mono ?_
      rintro e w2 ⟨g', c', rfl, hc2, bv', hp2, ho2⟩
      have HP2 := Hd.mk hp2
      have HO2 := Hd.mk ho2
      have HC2 := Hd.mk hc2
      clear hp2 ho2 hc2 x2
      go_wp2_with fail
      refine (print1_calls r g' c' (by have := HR2.out; omega) HC2.out HP2.out HO2.out ha).mono ?_
      rintro e w3 ⟨rfl, vo', hp3, ho3⟩
      have HR : Hd (Fed w0 pb db st many a pl acts s r k w3) := ⟨_, _, _, hp3, .inr ⟨HFU.out, rfl, ho3⟩⟩
      clear hp3 ho3
      go_wp2_with fail
      go_end0
      exact ⟨rfl, HR.out⟩

set_option maxRecDepth 100000 in
set_option maxHeartbeats 4000000 in
theorem oneR_calls (s : ByteArray) (r k : Nat) (hT : Tabs w0) (hE : REnc s r) (hk : k < s.size) (hr1 : 32 ≤ r) (hr2 : r < 127 ∨ 159 < r) (h : PF w0 w0.heap.size pb db 0 a pl many acts vo bv w) (ho : OBy w0.heap.size bv (byt s k) w) (ha : acts.length ≤ 1500000) :
    Calls Tryd.prog 27 #[.pointer (some ⟨pb, 0, none⟩), .int .u8 (bAt s k)] w fun e w' => e = .returned (.tuple #[]) ∧ Fed w0 pb db 0 many a pl acts s r k w' := by
  by_cases h1 : s.size = 1
  · obtain rfl : k = 0 := by omega
    obtain ⟨hb, hr⟩ := hE.asc h1
    obtain ⟨A0, c0, rfl⟩ := ho.slice
    have HF := Hd.mk (flush0_calls (A := A0) (c := c0) h.dec)
    have x1 : w.cell? ⟨pb, 1, none⟩ = some (.int .i64 0) := h.c 1
    have x2 : w.cell? ⟨pb, 2, none⟩ = some (.pointer (some ⟨db, 0, none⟩)) := h.c 2
    have HP := Hd.mk h
    have HE := Hd.mk hE
    have HB := Hd.mk hb
    have HK := Hd.mk hk
    rw [hb]
    have hd1 : decide ((r : Int) < 128) = true := by simp; omega
    have hd2 : ((r : Int) == 24) = false := beq_eq_false_iff_ne.2 (by omega)
    have hd3 : ((r : Int) == 26) = false := beq_eq_false_iff_ne.2 (by omega)
    have hd4 : ((r : Int) == 27) = false := beq_eq_false_iff_ne.2 (by omega)
    clear h ho hE h1 hb hk
    go_enter Tryd.func27, Tryd.ntmps27
    go_wp2_with fail
    refine HF.out.mono ?_
    rintro e w1 ⟨rfl, rfl⟩
    have H1 := Hd.mk (HP.out.hold (.slice none 0 0))
    clear x1 x2
    generalize w.setCell ⟨db, 1, none⟩ (.slice none 0 0) = w1 at *
    have x1 : w1.cell? ⟨pb, 1, none⟩ = some (.int .i64 0) := H1.out.c 1
    go_wp2_with fail
    refine (print0_calls _ _).mono ?_
    rintro e w2 ⟨rfl, rfl⟩
    go_wp2_with fail
    rw [← HB.out]
    refine (plain_calls s r 0 hT HE.out HK.out hr1 hr2 H1.out (OBy.nil _ _) ha).mono ?_
    rintro e w3 ⟨rfl, hf⟩
    have HFE := Hd.mk hf
    clear hf
    go_wp2_with fail
    go_end0
    exact ⟨rfl, HFE.out⟩
  · have hs1 := hE.s1
    have hbig : 128 ≤ bAt s k := by
      rcases Nat.eq_zero_or_pos k with rfl | h0
      · exact hE.big (by omega)
      · exact hE.rest k h0 hk
    have x1 : w.cell? ⟨pb, 1, none⟩ = some (.int .i64 0) := h.c 1
    have HP := Hd.mk (plain_calls s r k hT hE hk hr1 hr2 h ho ha)
    have hd1 : decide ((bAt s k : Int) < 128) = false := by simp; omega
    have hd2 : ((bAt s k : Int) == 24) = false := beq_eq_false_iff_ne.2 (by omega)
    have hd3 : ((bAt s k : Int) == 26) = false := beq_eq_false_iff_ne.2 (by omega)
    have hd4 : ((bAt s k : Int) == 27) = false := beq_eq_false_iff_ne.2 (by omega)
    clear h ho hE hbig hk h1 hr2 hr1 hs1
    go_enter Tryd.func27, Tryd.ntmps27
    go_wp2_with fail
    refine HP.out.mono ?_
    rintro e w3 ⟨rfl, hf⟩
    have HFE := Hd.mk hf
    clear hf
    go_wp2_with fail
    go_end0
    exact ⟨rfl, HFE.out⟩
end
end Go.Proofs.YtnolkpknoljacaaDoor
