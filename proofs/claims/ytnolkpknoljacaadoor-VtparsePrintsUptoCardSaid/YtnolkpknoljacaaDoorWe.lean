/- print at one rune; plain; one, in the ground state, at one byte of one rune. -/
import Derived.Test.YtnolkpknoljacaaDoorWd
set_option linter.unusedVariables false
set_option linter.unusedSimpArgs false
namespace Go.Proofs.YtnolkpknoljacaaDoor
open Go.RowKit Go.Lib

/-- The action of one rune. -/
def pa (r : Int) : AV := ⟨1, r, 0, 0, .slice none 0 0, ⟨#[]⟩, ⟨#[]⟩⟩
set_option maxRecDepth 100000 in
set_option maxHeartbeats 4000000 in
theorem print1_calls {w0 w : World} {B pb db : Nat} {st many : Int} {a : AV} {pl : List Int} {acts : List AV} {vo bv : Value} {bs : List Int} (r q c : Nat) (hr : r < 128 ∨ 159 < r) (hq : w.cell? ⟨q, 0, none⟩ = some (.int .i32 r))
    (h : PF w0 B pb db st a pl many acts vo bv w) (ho : OBy B bv bs w) (ha : acts.length ≤ 1500000) :
    Calls Tryd.prog 23 #[.pointer (some ⟨pb, 0, none⟩), .slice (some ⟨q, 0, none⟩) 1 c] w fun e w' => e = .returned (.tuple #[]) ∧ ∃ vo', PF w0 B pb db st a pl many (acts ++ [pa r]) vo' bv w' ∧ OBy B bv bs w' := by
  have H := Hd.mk h
  have HO := Hd.mk ho
  have HQ := Hd.mk hq
  obtain ⟨Ao, co, rfl⟩ := own_slice h.out
  have HX := Hd.mk (h.c 11)
  change Hd (w.cell? ⟨pb, 11, none⟩ = some (.slice Ao acts.length co)) at HX
  have hz := h.sz
  clear h ho hq
  go_enter Tryd.func23, Tryd.ntmps23
  go_wp2_with fail
  go_loopg [8] 1 (fun gk i wr => Hd ((gk = 1 ∧ i = .int .i64 0 ∧ wr = w) ∨ (gk = 0 ∧ i = .int .i64 1 ∧ ∃ vo', PF w0 B pb db st a pl many (acts ++ [pa r]) vo' bv wr ∧ OBy B bv bs wr)))
  case atStart => exact ⟨.inl ⟨rfl, rfl, rfl⟩⟩
  case round =>
    rcases hrel.out with ⟨rfl, rfl, rfl⟩ | ⟨rfl, rfl, vo', hp, hoo⟩
    · clear hrel
      have x0 := HQ.out
      have x11 := HX.out
      have hln : (acts.length + 1) * 72 ≤ 140737488355328 := by omega
      have HEA := Hd.mk (show encA [pa r] = AV.cells (pa r) by simp [encA])
      have HAV := Hd.mk (av_one (pa r) rfl)
      rcases hr with hr | hr
      · have hd1 : decide ((r : Int) < 128) = true := by simp; omega
        go_wp2_with (at_builtin; refine app_lit rfl (.tmp 22) (.tmp 25) 23 29 _ 7 72 rfl Tryd.underlying23 Tryd.info29 rfl (by decide) (by decide) B _ acts.length 1 (encA acts) _ rfl rfl rfl HAV.out H.out.out hz hln ?_)
        intro v5 w5 hown5 hgr5 hat5
        obtain ⟨A5, c5, hv5⟩ := own_slice hown5
        subst hv5
        obtain ⟨m0, m1, m2⟩ := H.out.grown (acts' := acts ++ [pa r]) hgr5 hown5 (by simp) (by rw [encA_append, HEA.out]; rfl)
        have HN := Hd.mk m2
        have HO5 := Hd.mk ((HO.out.touch (Touch.of_grown hgr5) (fun k hk cs e => own_not H.out.out e (by decide) hk)))
        have HX5 := Hd.mk (box_touch H.out.box (Touch.of_grown hgr5) (own_not H.out.out H.out.box (by decide)))
        have HO6 := Hd.mk (HO5.out.touch ((Touch.refl (fun j => j = pb) w5).setCell ⟨pb, 11, none⟩ (.slice A5 (acts.length + 1) c5) rfl) (fun j hj cs e => by subst hj; exact ne_type HX5.out e (by decide) rfl))
        clear hown5 hgr5 hat5 m2
        go_wp2_with fail
        go_roundg 0
        case measure => omega
        case rel => exact ⟨.inr ⟨rfl, rfl, _, HN.out, HO6.out⟩⟩
      · have hd1 : decide ((r : Int) < 128) = false := by simp; omega
        have hd2 : decide ((159 : Int) < (r : Int)) = true := by simp; omega
        go_wp2_with (at_builtin; refine app_lit rfl (.tmp 22) (.tmp 25) 23 29 _ 7 72 rfl Tryd.underlying23 Tryd.info29 rfl (by decide) (by decide) B _ acts.length 1 (encA acts) _ rfl rfl rfl HAV.out H.out.out hz hln ?_)
        intro v5 w5 hown5 hgr5 hat5
        obtain ⟨A5, c5, hv5⟩ := own_slice hown5
        subst hv5
        obtain ⟨m0, m1, m2⟩ := H.out.grown (acts' := acts ++ [pa r]) hgr5 hown5 (by simp) (by rw [encA_append, HEA.out]; rfl)
        have HN := Hd.mk m2
        have HO5 := Hd.mk ((HO.out.touch (Touch.of_grown hgr5) (fun k hk cs e => own_not H.out.out e (by decide) hk)))
        have HX5 := Hd.mk (box_touch H.out.box (Touch.of_grown hgr5) (own_not H.out.out H.out.box (by decide)))
        have HO6 := Hd.mk (HO5.out.touch ((Touch.refl (fun j => j = pb) w5).setCell ⟨pb, 11, none⟩ (.slice A5 (acts.length + 1) c5) rfl) (fun j hj cs e => by subst hj; exact ne_type HX5.out e (by decide) rfl))
        clear hown5 hgr5 hat5 m2
        go_wp2_with fail
        go_roundg 0
        case measure => omega
        case rel => exact ⟨.inr ⟨rfl, rfl, _, HN.out, HO6.out⟩⟩
    · clear hrel
      have HP3 := Hd.mk hp
      have HO3 := Hd.mk hoo
      clear hp hoo
      go_wp2_with fail
      go_end0
      exact ⟨rfl, _, HP3.out, HO3.out⟩
end Go.Proofs.YtnolkpknoljacaaDoor
