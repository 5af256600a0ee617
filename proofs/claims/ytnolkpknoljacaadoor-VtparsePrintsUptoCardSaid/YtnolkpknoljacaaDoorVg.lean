/- Put over one control sequence, All, the statements' live. -/
import Derived.Test.YtnolkpknoljacaaDoorVf
set_option linter.unusedVariables false
set_option linter.unusedSimpArgs false
namespace Go.Proofs.YtnolkpknoljacaaDoor
open Go.RowKit

def seqB : List Int := [27, 91, 51, 59, 53, 72]
def u8s (l : List Int) : List Value := l.map fun n => .int .u8 n
def S6 (w0 : World) (B pb db : Nat) (w : World) : Prop := ∃ v v' vo', PF w0 B pb db 0 { zeroA with f := 72, pv := v } [3, 5] 2 [{ zeroA with f := 72, k := 4, pv := v' }] vo' (.slice none 0 0) w ∧ w.ownsRow B 3 1 v' 2 (ints [3, 5])
/-- Where the parser stands behind k bytes. -/
def Stage (w0 : World) (B pb db : Nat) (w : World) : Nat → Prop
  | 0 => PF w0 B pb db 0 zeroA [] 0 [] (.slice none 0 0) (.slice none 0 0) w
  | 1 => PF w0 B pb db 1 zeroA [] 0 [] (.slice none 0 0) (.slice none 0 0) w
  | 2 => PF w0 B pb db 3 zeroA [] 0 [] (.slice none 0 0) (.slice none 0 0) w
  | 3 => ∃ v, PF w0 B pb db 4 { zeroA with pv := v } [3] 1 [] (.slice none 0 0) (.slice none 0 0) w
  | 4 => ∃ v, PF w0 B pb db 4 { zeroA with pv := v } [3, -1] 2 [] (.slice none 0 0) (.slice none 0 0) w
  | 5 => ∃ v, PF w0 B pb db 4 { zeroA with pv := v } [3, 5] 2 [] (.slice none 0 0) (.slice none 0 0) w
  | _ => S6 w0 B pb db w
theorem Stage.bel {w0 : World} {B pb db : Nat} {w : World} : ∀ {k : Nat}, Stage w0 B pb db w k → Below B w0 w
  | 0, h => PF.bel h
  | 1, h => PF.bel h
  | 2, h => PF.bel h
  | 3, ⟨_, h⟩ => PF.bel h
  | 4, ⟨_, h⟩ => PF.bel h
  | 5, ⟨_, h⟩ => PF.bel h
  | _ + 6, ⟨_, _, _, h, _⟩ => PF.bel h

set_option maxRecDepth 100000 in
set_option maxHeartbeats 4000000 in
theorem put6_calls {w0 w : World} {B pb db : Nat} (q c : Nat) (hq : q < B) (h : PF w0 B pb db 0 zeroA [] 0 [] (.slice none 0 0) (.slice none 0 0) w) (hB : B ≤ w0.heap.size)
    (hc : ∀ j, j < 6 → w0.cell? ⟨q, j, none⟩ = some (.int .u8 (seqB.getD j 0))) :
    Calls Tryd.prog 12 #[.pointer (some ⟨pb, 0, none⟩), .slice (some ⟨q, 0, none⟩) 6 c] w fun e w' => ∃ v v' vo', e = .returned vo' ∧ PF w0 B pb db 0 { zeroA with f := 72, pv := v } [3, 5] 2 [] (.slice none 0 0) (.slice none 0 0) w' ∧
      w'.ownsRow B 29 7 vo' 1 (encA [{ zeroA with f := 72, k := 4, pv := v' }]) ∧ w'.ownsRow B 3 1 v' 2 (ints [3, 5]) := by
  have H := Hd.mk h
  have HC := Hd.mk hc
  have x11 : w.cell? ⟨pb, 11, none⟩ = some (.slice none 0 0) := h.c 11
  have f11 := h.f 11
  clear h hc
  go_enter Tryd.func12, Tryd.ntmps12
  go_wp2_with (go_at_call 26; refine (none_calls H.out).mono ?_; rintro e w' ⟨rfl, rfl⟩)
  have HP1 := Hd.mk (H.out.store 11 (.slice none 0 0) (st' := 0) (many' := 0) (a' := zeroA) (pl' := []) (acts' := []) (vo' := .slice none 0 0) rfl H.out.par H.out.out)
  clear x11 f11
  generalize w.setCell ⟨pb, 11, none⟩ (.slice none 0 0) = w1 at *
  go_loopg [15] 6 (fun gk i wr => ∃ k : Nat, k + gk = 6 ∧ i = .int .i64 k ∧ Hd (Stage w0 B pb db wr k))
  case atStart => exact ⟨0, rfl, rfl, ⟨HP1.out⟩⟩
  case round =>
    obtain ⟨k, hk, rfl, HS⟩ := hrel
    by_cases hlt : k < 6
    · have g0 : wr.cell? ⟨q, k, none⟩ = some (.int .u8 (seqB.getD k 0)) := (HS.out.bel.cell (p := ⟨q, k, none⟩) hq).trans (HC.out k hlt)
      have hcase : k = 0 ∨ k = 1 ∨ k = 2 ∨ k = 3 ∨ k = 4 ∨ k = 5 := by omega
      rcases hcase with rfl | rfl | rfl | rfl | rfl | rfl
      · have HT := Hd.mk (one0_calls (show PF w0 B pb db 0 zeroA [] 0 [] (.slice none 0 0) (.slice none 0 0) wr from HS.out))
        change wr.cell? ⟨q, 0, none⟩ = some (.int .u8 27) at g0
        go_wp2_with fail
        refine HT.out.mono ?_
        rintro e w2 ⟨rfl, h2⟩
        have HN := Hd.mk h2
        clear h2 g0
        go_wp2_with fail
        go_roundg (gk - 1)
        case measure => omega
        case rel => exact ⟨1, by omega, rfl, ⟨HN.out⟩⟩
      · have HT := Hd.mk (one1_calls (show PF w0 B pb db 1 zeroA [] 0 [] (.slice none 0 0) (.slice none 0 0) wr from HS.out))
        change wr.cell? ⟨q, 1, none⟩ = some (.int .u8 91) at g0
        go_wp2_with fail
        refine HT.out.mono ?_
        rintro e w2 ⟨rfl, h2⟩
        have HN := Hd.mk h2
        clear h2 g0
        go_wp2_with fail
        go_roundg (gk - 1)
        case measure => omega
        case rel => exact ⟨2, by omega, rfl, ⟨HN.out⟩⟩
      · have HT := Hd.mk (oneA_calls (show PF w0 B pb db 3 zeroA [] 0 [] (.slice none 0 0) (.slice none 0 0) wr from HS.out))
        change wr.cell? ⟨q, 2, none⟩ = some (.int .u8 51) at g0
        go_wp2_with fail
        refine HT.out.mono ?_
        rintro e w2 ⟨rfl, h2⟩
        have HN := Hd.mk h2
        clear h2 g0
        go_wp2_with fail
        go_roundg (gk - 1)
        case measure => omega
        case rel => exact ⟨3, by omega, rfl, ⟨HN.out⟩⟩
      · obtain ⟨v, hv⟩ := HS.out
        have HT := Hd.mk (oneB_calls hv)
        clear hv
        change wr.cell? ⟨q, 3, none⟩ = some (.int .u8 59) at g0
        go_wp2_with fail
        refine HT.out.mono ?_
        rintro e w2 ⟨rfl, h2⟩
        have HN := Hd.mk h2
        clear h2 g0
        go_wp2_with fail
        go_roundg (gk - 1)
        case measure => omega
        case rel => exact ⟨4, by omega, rfl, ⟨HN.out⟩⟩
      · obtain ⟨v, hv⟩ := HS.out
        have HT := Hd.mk (oneC_calls hv)
        clear hv
        change wr.cell? ⟨q, 4, none⟩ = some (.int .u8 53) at g0
        go_wp2_with fail
        refine HT.out.mono ?_
        rintro e w2 ⟨rfl, h2⟩
        have HN := Hd.mk h2
        clear h2 g0
        go_wp2_with fail
        go_roundg (gk - 1)
        case measure => omega
        case rel => exact ⟨5, by omega, rfl, ⟨v, HN.out⟩⟩
      · obtain ⟨v, hv⟩ := HS.out
        have HT := Hd.mk (oneH_calls hv (by decide) (by decide))
        have hz := hv.sz
        clear hv
        change wr.cell? ⟨q, 5, none⟩ = some (.int .u8 72) at g0
        go_wp2_with fail
        refine HT.out.mono ?_
        rintro e w2 ⟨rfl, v2, vo2, h2, ho2⟩
        have HN := Hd.mk h2
        have HO := Hd.mk (own_mono ho2 hz)
        clear h2 g0 ho2
        go_wp2_with fail
        go_roundg (gk - 1)
        case measure => omega
        case rel => exact ⟨6, by omega, rfl, ⟨v, v2, vo2, HN.out, HO.out⟩⟩
    · obtain rfl : k = 6 := by omega
      obtain ⟨v, v', vo', hP, hO⟩ := HS.out
      have HP := Hd.mk hP
      have HO := Hd.mk hO
      have x11 : wr.cell? ⟨pb, 11, none⟩ = some vo' := hP.c 11
      have f11 := hP.f 11
      obtain ⟨Ao, co, rfl⟩ := own_slice hP.out
      clear hP hO
      go_wp2_with fail
      have hT := (Touch.refl (fun j => j = pb) wr).setCell ⟨pb, 11, none⟩ (.slice none 0 0) rfl
      exact bodyPost_ret (v := .slice Ao 1 co) (by simp [results, Tryd.results12, go_sem]) rfl ⟨v, v', _, rfl,
        HP.out.store 11 (.slice none 0 0) (st' := 0) (many' := 2) (a' := { zeroA with f := 72, pv := v }) (pl' := [3, 5]) (acts' := []) (vo' := .slice none 0 0) rfl HP.out.par (World.ownsRow_nil _ _ _ _),
        Touch.own HP.out.out hT (fun k hk e => own_not HP.out.out HP.out.box (by decide) ((congrArg some e).symm.trans hk.symm)), Touch.own HO.out hT (fun k hk e => own_not HO.out HP.out.box (by decide) (by rw [hk, e]))⟩

set_option maxRecDepth 100000 in
set_option maxHeartbeats 4000000 in
theorem all6_calls (q c : Nat) (w : World) (hq : q < w.heap.size) (hc : ∀ j, j < 6 → w.cell? ⟨q, j, none⟩ = some (.int .u8 (seqB.getD j 0))) :
    Calls Tryd.prog 7 #[.slice (some ⟨q, 0, none⟩) 6 c] w fun e w' => ∃ v' vo', e = .returned vo' ∧ w'.ownsRow w.heap.size 29 7 vo' 1 (encA [{ zeroA with f := 72, k := 4, pv := v' }]) ∧ w'.ownsRow w.heap.size 3 1 v' 2 (ints [3, 5]) ∧ Below w.heap.size w w' := by
  have HC := Hd.mk hc
  clear hc
  go_enter Tryd.func7, Tryd.ntmps7
  go_wp2_with fail
  refine (new_calls w).mono ?_
  rintro e w1 ⟨rfl, h1⟩
  have H1 := Hd.mk h1
  clear h1
  go_wp2_with fail
  refine (put6_calls q c hq H1.out (Nat.le_refl _) HC.out).mono ?_
  rintro e w2 ⟨v, v', vo, rfl, h2, ho2, hp2⟩
  have H2 := Hd.mk h2
  have HO2 := Hd.mk ho2
  have HV2 := Hd.mk hp2
  obtain ⟨Ao, co, rfl⟩ := own_slice ho2
  have x1 : w2.cell? ⟨w.heap.size + 1, 1, none⟩ = some (.int .i64 0) := h2.c 1
  have x2 : w2.cell? ⟨w.heap.size + 1, 2, none⟩ = some (.pointer (some ⟨w.heap.size, 0, none⟩)) := h2.c 2
  clear h2 ho2 hp2
  go_wp2_with fail
  refine (flush0_calls H2.out.dec).mono ?_
  rintro e w3 ⟨rfl, rfl⟩
  have H3 := Hd.mk (H2.out.hold (.slice none 0 0))
  have hT := (Touch.refl (fun j => j = w.heap.size) w2).setCell ⟨w.heap.size, 1, none⟩ (.slice none 0 0) rfl
  have HO3 := Hd.mk (Touch.own HO2.out hT (fun k hk e => own_not HO2.out H2.out.dec (by decide) (by rw [hk, e])))
  have HV3 := Hd.mk (Touch.own HV2.out hT (fun k hk e => own_not HV2.out H2.out.dec (by decide) (by rw [hk, e])))
  clear hT x1 x2
  generalize w2.setCell ⟨w.heap.size, 1, none⟩ (.slice none 0 0) = w3 at *
  have x11 : w3.cell? ⟨w.heap.size + 1, 11, none⟩ = some (.slice none 0 0) := H3.out.c 11
  have hz := H3.out.sz
  have hrd : Rd w3 (.slice none 0 0) 0 [] := ⟨none, 0, rfl, Nat.le_refl _, Nat.zero_le _, .inl rfl⟩
  have HRD := Hd.mk hrd
  clear hrd
  have hb72 : (1 + 0) * 72 ≤ 140737488355328 := by omega
  go_wp2_with (first
    | (go_at_call 23; refine (print0_calls _ _).mono ?_; rintro e w' ⟨rfl, rfl⟩)
    | (at_builtin; refine app_rd rfl (.tmp 21) (.tmp 25) 23 29 _ 7 72 rfl Tryd.underlying23 Tryd.info29 rfl (by decide) (by decide) w.heap.size _ _ 1 0 _ [] rfl rfl HRD.out rfl (by simp) HO3.out hz hb72 ?_))
  intro v5 w5 hown5 hgr5 hat5
  obtain ⟨A5, c5, rfl⟩ := own_slice hown5
  have HB5 := Hd.mk (H3.out.bel.grown hgr5 hz (fun j hj => (own_lt HO3.out j hj).1))
  have HV5 := Hd.mk (Touch.own HV3.out (Touch.of_grown hgr5) (fun k hk e => own_type_ne HV3.out HO3.out (by decide) k hk e.symm))
  have HO5 := Hd.mk hown5
  clear hown5 hgr5 hat5
  go_wp2_with fail
  exact bodyPost_ret (v := .slice A5 (1 + 0) c5) (by simp [results, Tryd.results7, go_sem]) rfl ⟨v', _, rfl, HO5.out, HV5.out, HB5.out⟩

/-- A parameter. -/
def paramF (pl : List Int) (i other : Int) : Int :=
  if i < 0 ∨ (pl.length : Int) ≤ i then other else if pl.getD i.toNat 0 = -1 ∨ pl.getD i.toNat 0 = 0 then other else pl.getD i.toNat 0
def RJ (w : World) (v : Value) (l : List Int) : Prop := Rd w v l.length (ints l)
theorem RJ.at_ {w : World} {v : Value} {l : List Int} (h : RJ w v l) {k : Nat} (hk : k < l.length) :
    ∃ b o c, v = .slice (some ⟨b, o, none⟩) l.length c ∧ l.length ≤ c ∧ c ≤ maxLen ∧ b < w.heap.size ∧ ∀ j (hj : j < l.length), w.cell? ⟨b, o + j, none⟩ = some (.int .i64 l[j]) := by
  have hne : ints l ≠ [] := fun e => by have := ints_len l; rw [e] at this; simp at this; omega
  obtain ⟨b, o, c, rfl, h1, h2, h3, hc⟩ := Rd.at_ h hne
  exact ⟨b, o, c, rfl, h1, h2, h3, fun j hj => hc j _ (by simp [ints, hj])⟩

set_option maxRecDepth 100000 in
set_option maxHeartbeats 4000000 in
theorem param_calls (a : AV) (pl : List Int) (i other : Int) (w : World) (hp : RJ w a.pv pl) :
    Calls Tryd.prog 17 #[.agg #[.int .i64 a.k, .int .i32 a.r, .int .u8 a.f, .int .u8 a.p, a.pv, .string a.i, .string a.t], .int .i64 i, .int .i64 other] w fun e w' => e = .returned (.int .i64 (paramF pl i other)) ∧ Below w.heap.size w w' := by
  have HP := Hd.mk hp
  obtain ⟨k, r, f, p, pv, ia, t⟩ := a
  obtain ⟨A, c, hpv, h1, h2, -⟩ := hp
  simp only at hpv HP ⊢
  subst hpv
  have hm : pl.length ≤ 9223372036854775807 := Nat.le_trans h1 (by unfold maxLen at h2; omega)
  clear h1 h2
  have HB := Hd.mk (below_alloc1 w (.cells #[.int .i64 k, .int .i32 r, .int .u8 f, .int .u8 p, .slice A pl.length c, .string ia, .string t] 29))
  by_cases h0 : i < 0
  · have HE := Hd.mk (show paramF pl i other = other by unfold paramF; rw [if_pos (.inl h0)])
    go_enter Tryd.func17, Tryd.ntmps17
    go_wp2
    all_goals (exact bodyPost_ret (v := .int .i64 other) (by simp [results, Tryd.results17, go_sem]) rfl ⟨by rw [HE.out], HB.out⟩)
  · obtain ⟨j, rfl⟩ := Int.eq_ofNat_of_zero_le (show 0 ≤ i by omega)
    by_cases hl : j < pl.length
    · obtain ⟨b, o, c', hv, -, -, hbl, hc⟩ := RJ.at_ HP.out hl
      injection hv with hv1 hv2 hv3
      clear hv2
      subst hv1 hv3
      have g0 := hc j hl
      clear hc
      have hE : paramF pl j other = if pl[j] = -1 ∨ pl[j] = 0 then other else pl[j] := by
        unfold paramF
        rw [if_neg (by omega)]
        simp [List.getD, hl]
      have HE := Hd.mk hE
      have hd1 : decide (pl.length ≤ j) = false := by simp; omega
      clear hE
      generalize pl[j] = z at *
      by_cases z1 : z = -1
      · subst z1
        go_enter Tryd.func17, Tryd.ntmps17
        go_wp2
        all_goals (exact bodyPost_ret (v := .int .i64 other) (by simp [results, Tryd.results17, go_sem]) rfl ⟨by rw [HE.out]; rfl, HB.out⟩)
      · by_cases z0 : z = 0
        · subst z0
          go_enter Tryd.func17, Tryd.ntmps17
          go_wp2
          all_goals (exact bodyPost_ret (v := .int .i64 other) (by simp [results, Tryd.results17, go_sem]) rfl ⟨by rw [HE.out]; rfl, HB.out⟩)
        · have e1 : (z == -1) = false := beq_eq_false_iff_ne.2 z1
          have e0 : (z == 0) = false := beq_eq_false_iff_ne.2 z0
          have HE2 := Hd.mk (show paramF pl j other = z by rw [HE.out, if_neg (by rintro (h | h); exact z1 h; exact z0 h)])
          clear z1 z0
          go_enter Tryd.func17, Tryd.ntmps17
          go_wp2
          all_goals (exact bodyPost_ret (v := .int .i64 z) (by simp [results, Tryd.results17, go_sem]) rfl ⟨by rw [HE2.out], HB.out⟩)
    · have HE := Hd.mk (show paramF pl j other = other by unfold paramF; rw [if_pos (.inr (by omega))])
      have hd1 : decide (pl.length ≤ j) = true := by simp; omega
      go_enter Tryd.func17, Tryd.ntmps17
      go_wp2
      all_goals (exact bodyPost_ret (v := .int .i64 other) (by simp [results, Tryd.results17, go_sem]) rfl ⟨by rw [HE.out], HB.out⟩)
end Go.Proofs.YtnolkpknoljacaaDoor
