/- layout.across. -/
import Derived.Test.YthpfhlhoekgpjaaDoorI
import Derived.Deep.DeepCutAuto
import Derived.Deep.CutBlock
set_option linter.unusedVariables false
set_option linter.unusedSimpArgs false
namespace Go.Proofs.YthpfhlhoekgpjaaDoor
open Go.RowKit

def ltC : Cell := oneC ⟨#[60]⟩
def gtC : Cell := oneC ⟨#[62]⟩
/-- Where the part of one row begins that is shown. -/
def fromF (cols at_ : Nat) : Nat := (at_ / (cols / 2) - 1) * (cols / 2)
def acrossF (cells : List Cell) (cols at_ : Nat) : List Cell × Nat :=
  if cells.length + (if at_ = cells.length then 1 else 0) ≤ cols then (cells, at_)
  else
    let from_ := fromF cols at_
    let to_ := min (from_ + cols) cells.length
    let row := loneF ((cells.take to_).drop from_)
    let row := if 0 < from_ then row.set 0 ltC else row
    let row := if to_ < cells.length then row.set (row.length - 1) gtC else row
    (loneF row, at_ - from_)
theorem from_le (cols at_ : Nat) (h : 8 ≤ cols) : fromF cols at_ + cols / 2 ≤ at_ ∨ (fromF cols at_ = 0 ∧ at_ < cols / 2) := by
  unfold fromF
  generalize hh : cols / 2 = h'
  have h4 : 0 < h' := by omega
  rcases Nat.lt_or_ge at_ h' with h1 | h1
  · right; rw [Nat.div_eq_of_lt h1]; simp [h1]
  · left
    have : 0 < at_ / h' := Nat.div_pos h1 h4
    have h2 : (at_ / h' - 1) * h' + h' = at_ / h' * h' := by
      rw [← Nat.succ_mul]; congr 1; omega
    rw [h2]
    exact Nat.div_mul_le_self _ _

theorem ac_zero (a h : Nat) (hq : a / h = 0) : wrap64 ((a : Int) / (h : Int)) = 0 := by
  rw [← Int.natCast_ediv, hq]; unfold wrap64; omega
theorem ac_neg (h : Nat) (hh : h ≤ 100) : wrap64 (-(h : Int)) = -(h : Int) := by unfold wrap64; omega
theorem ac_small (n : Nat) (hn : n ≤ 100000) : wrap64 (n : Int) = (n : Int) := by unfold wrap64; omega
theorem ac_quo (a h : Nat) (ha : a ≤ 100000) (hh : 0 < h) (hq : 0 < a / h) : ∃ q f : Nat, wrap64 ((a : Int) / (h : Int)) = (q : Int) + 1 ∧ wrap64 ((q : Int) * (h : Int)) = (f : Int) ∧ f = (a / h - 1) * h ∧ q ≤ 100000 ∧ f + h ≤ a := by
  have h1 : a / h ≤ a := Nat.div_le_self _ _
  have h2 : a / h * h ≤ a := Nat.div_mul_le_self _ _
  have h3 : a / h = (a / h - 1) + 1 := by omega
  generalize a / h - 1 = q at *
  have h4 : q * h + h = a / h * h := by rw [h3, Nat.succ_mul]
  have h5 : q * h ≤ 100000 := by omega
  refine ⟨q, q * h, ?_, ?_, rfl, by omega, by omega⟩
  · rw [← Int.natCast_ediv, h3, ac_small _ (by omega)]; rfl
  · rw [← Int.natCast_mul, ac_small _ h5]

theorem OC.set0 {w : World} {B g n cap : Nat} {l : List Cell} (h : OC w B (.slice (some ⟨g, 0, none⟩) n cap) l) (hk : 0 < l.length) (c : Cell) :
    OC (((w.setCell ⟨g, 0, none⟩ (.string c.t)).setCell ⟨g, 1, none⟩ (.int .i64 c.wd)).setCell ⟨g, 2, none⟩ (.int .i64 c.a)) B (.slice (some ⟨g, 0, none⟩) n cap) (l.set 0 c) := by
  have := OC.set3 h hk c
  simpa using this
theorem below_set3 {B : Nat} {a w : World} (h : Below B a w) {p q r : Addr} (hp : B ≤ p.block) (hq : B ≤ q.block) (hr : B ≤ r.block) (u v x : Value) : Below B a (((w.setCell p u).setCell q v).setCell r x) :=
  ((h.setCell hp u).setCell hq v).setCell hr x
theorem rc_cut {w : World} {A : Option Addr} {c : Nat} {l : List Cell} (h : RC w (.slice A l.length c) l) (f m : Nat) (hm : f + (m + 1) ≤ l.length) (hc : l.length ≤ c) :
    RC w (.slice (A.map (·.add (f * 3))) (m + 1) (m + 1)) ((l.take (f + (m + 1))).drop f) := by
  have hlen : ((l.take (f + (m + 1))).drop f).length = m + 1 := by simp; omega
  have h1 := Rd.take h 3 (f + (m + 1)) (f + (m + 1)) (by omega) (Nat.le_refl _) (by omega)
  have h2 := Rd.drop h1 3 f (by omega) (by simp [encs_length]; omega)
  rw [if_neg (by omega), show f + (m + 1) - f = m + 1 by omega] at h2
  unfold RC
  rw [hlen]
  have e : encs ((l.take (f + (m + 1))).drop f) = ((encs l).take ((f + (m + 1)) * 3)).drop (f * 3) := by
    have key : ∀ (l : List Cell) (a : Nat), encs (l.take a) = (encs l).take (a * 3) ∧ encs (l.drop a) = (encs l).drop (a * 3) := by
      intro l
      induction l with
      | nil => intro a; simp
      | cons x l ih =>
        intro a
        cases a with
        | zero => simp
        | succ a =>
          have e : (a + 1) * 3 = a * 3 + 1 + 1 + 1 := by omega
          rw [List.take_succ_cons, List.drop_succ_cons, encs_cons, encs_cons, (ih a).1, (ih a).2, e]
          simp [Cell.enc]
    rw [(key _ _).2, (key _ _).1]
  rw [e]
  exact h2

theorem retT2 {v : Value} {m n : Int} (h : m = n) : Ending.returned (.tuple #[v, .int .i64 m]) = .returned (.tuple #[v, .int .i64 n]) := by rw [h]
theorem loneF_len (l : List Cell) : (loneF l).length = l.length := by
  have : ∀ (ks : List Nat) (cur : List Cell), (ks.foldl loneStep cur).length = cur.length := by
    intro ks
    induction ks with
    | nil => intro cur; rfl
    | cons k ks ih => intro cur; rw [List.foldl_cons, ih, loneStep_len]
  exact this _ _
theorem OC.form {w : World} {B n : Nat} {v : Value} {l : List Cell} (h : OC w B v l) (hn : l.length = n) (h0 : 0 < n) : ∃ g cap, v = .slice (some ⟨g, 0, none⟩) n cap ∧ B ≤ g ∧ g < w.heap.size := by
  subst hn
  obtain ⟨g, cap, e, h1, h2, _⟩ := own_form h h0
  exact ⟨g, cap, e, h1, h2⟩
/-- Element k of an own row, to be written: its cells are there, none is frozen. -/
theorem OC.cells3 {w : World} {B g n cap : Nat} {l : List Cell} (h : OC w B (.slice (some ⟨g, 0, none⟩) n cap) l) {k : Nat} (hk : k < l.length) :
    (∃ x, w.cell? ⟨g, k * 3, none⟩ = some x) ∧ (∃ x, w.cell? ⟨g, k * 3 + 1, none⟩ = some x) ∧ (∃ x, w.cell? ⟨g, k * 3 + 2, none⟩ = some x) := by
  obtain ⟨b, o, c', hv, h1, h2, h3, hc⟩ := RC.at_ (OC.rc h) hk
  injection hv with hv1 hv3 hv4
  injection hv1 with hv1
  injection hv1 with hv1 hv5
  subst hv1 hv5
  obtain ⟨g0, g1, g2⟩ := hc k hk
  simp only [Nat.zero_add] at g0 g1 g2
  exact ⟨⟨_, g0⟩, ⟨_, g1⟩, ⟨_, g2⟩⟩

set_option maxRecDepth 100000 in
set_option maxHeartbeats 2000000 in
theorem across_calls (B : Nat) (v : Value) (cells : List Cell) (cols at_ : Nat) (w : World) (hv : OC w B v cells) (hB : B ≤ w.heap.size) (hc8 : 8 ≤ cols) (hc2 : cols ≤ 200) (hat : at_ ≤ cells.length) (hn : cells.length ≤ 100000) :
    Calls Tryd.prog 38 #[v, .int .i64 cols, .int .i64 at_] w fun e w' => ∃ v', e = .returned (.tuple #[v', .int .i64 (acrossF cells cols at_).2]) ∧ OC w' B v' (acrossF cells cols at_).1 ∧ Below w.heap.size w w' := by
  have HV := Hd.mk hv
  obtain ⟨A, c, rfl⟩ := own_slice hv
  clear hv
  by_cases hm : cells.length + (if at_ = cells.length then 1 else 0) ≤ cols
  · have HF := Hd.mk (show acrossF cells cols at_ = (cells, at_) by rw [acrossF, if_pos hm])
    by_cases he : at_ = cells.length
    · subst he
      rw [if_pos rfl] at hm
      have hb := Below.refl w.heap.size w
      go_enter Tryd.func38, Tryd.ntmps38
      go_wp2_with fail
      go_ret2
      rw [HF.out]
      exact ⟨_, rfl, HV.out, hb⟩
    · rw [if_neg he] at hm
      have heb : ((at_ : Int) == (cells.length : Int)) = false := by simp; omega
      have hb := Below.refl w.heap.size w
      clear he
      go_enter Tryd.func38, Tryd.ntmps38
      go_wp2_with fail
      go_ret2
      rw [HF.out]
      exact ⟨_, rfl, HV.out, hb⟩
  · have hfl := from_le cols at_ hc8
    have hlen2 : cols ≤ cells.length := by split at hm <;> omega
    obtain ⟨many, hmany⟩ : ∃ many, cells.length + (if at_ = cells.length then 1 else 0) = many := ⟨_, rfl⟩
    have hmb : many ≤ cells.length + 1 := by rw [← hmany]; split <;> omega
    have HMANY0 : ¬ many ≤ cols := by rw [← hmany]; exact hm
    have HMANY := Hd.mk hmany
    clear hmany
    obtain ⟨f, hf⟩ : ∃ f, fromF cols at_ = f := ⟨_, rfl⟩
    have hfa : f ≤ at_ := by rcases hfl with h | h <;> omega
    have hf2 : f ≤ cells.length ∧ (f < cells.length) := by rcases hfl with h | h <;> omega
    obtain ⟨hf3, hf4⟩ := hf2
    obtain ⟨m, hm1⟩ : ∃ m, min (f + cols) cells.length = f + (m + 1) := ⟨min (f + cols) cells.length - f - 1, by omega⟩
    have hm2 : f + (m + 1) ≤ cells.length := by omega
    have HRC := Hd.mk (OC.rc HV.out)
    have hcc : cells.length ≤ c := by obtain ⟨A1, c1, e, h1, _⟩ := HRC.out; injection e with _ _ e; omega
    have HSL := Hd.mk (rc_cut HRC.out f m hm2 hcc)
    have hsl : ((cells.take (f + (m + 1))).drop f).length = m + 1 := by simp; omega
    have HSN := Hd.mk hsl
    have hslb : ((cells.take (f + (m + 1))).drop f).length * 32 ≤ 140737488355328 := by omega
    have HSB := Hd.mk hslb
    have HF := Hd.mk hf
    have HM := Hd.mk hm1
    have HAC : Hd (acrossF cells cols at_ = (let row := loneF ((cells.take (f + (m + 1))).drop f); let row := if 0 < f then row.set 0 ltC else row; let row := if f + (m + 1) < cells.length then row.set (row.length - 1) gtC else row; (loneF row, at_ - f))) := ⟨by
      rw [acrossF, if_neg hm]; simp only [hf, hm1]⟩
    have hmin : f + cols ≤ cells.length ∨ cells.length < f + cols := by omega
    have hat3 : at_ - f ≤ 100000 := by omega
    have hcast : (at_ : Int) - (f : Int) = ((at_ - f : Nat) : Int) := by omega
    have HCAST := Hd.mk hcast
    obtain ⟨h, hgh⟩ : ∃ h, cols / 2 = h := ⟨_, rfl⟩
    have hcols : ((cols : Int) / 2) = (h : Int) := by omega
    have hh4 : 4 ≤ h := by omega
    have hhw : h ≤ 100 := by omega
    have hff : fromF cols at_ = (at_ / (cols / 2) - 1) * (cols / 2) := rfl
    rw [hgh, hf] at hff
    have HFF := Hd.mk hff
    clear hff hgh hf hm1 hsl hslb hfl hcast hm
    have hmany2 : cols < many := by omega
    clear HMANY0
    go_enter Tryd.func38, Tryd.ntmps38
    go_upto_if 17 with (fail)
    go_cut [8] (fun s w' => s = .int .i64 (many : Int) ∧ w' = w)
    case first =>
      by_cases he : at_ = cells.length
      · have hM : many = cells.length + 1 := by have := HMANY.out; rw [if_pos he] at this; exact this.symm
        have HM2 := Hd.mk hM
        subst he
        clear hM
        go_wp2_with fail
        go_meet
        exact ⟨by rw [HM2.out]; rfl, rfl⟩
      · have hM : many = cells.length := by have := HMANY.out; rw [if_neg he] at this; exact this.symm
        have HM2 := Hd.mk hM
        have heb : ((at_ : Int) == (cells.length : Int)) = false := by simp; omega
        clear hM he
        go_wp2_with fail
        go_meet
        exact ⟨by rw [HM2.out], rfl⟩
    case rest =>
      obtain ⟨rfl, hww⟩ := hcut
      have hww := hww.symm
      subst hww
      go_upto_region 7 with (fail)
      go_cut [10] (fun s w' => s = .int .i64 (f : Int) ∧ w' = w)
      case first =>
        rcases Nat.eq_zero_or_pos (at_ / h) with hq | hq
        · have e1 := ac_zero at_ h hq
          have e2 := ac_neg h hhw
          have hf0 : f = 0 := by rw [HFF.out, hq]; simp
          have HF0 := Hd.mk hf0
          clear hq hf0
          go_wp2_with fail
          go_meet
          exact ⟨by rw [HF0.out]; rfl, rfl⟩
        · obtain ⟨q, f', e1, e2, hf', hq4, hq6⟩ := ac_quo at_ h (by omega) (by omega) hq
          have hf0 : f' = f := by rw [HFF.out, hf']
          have HF0 := Hd.mk hf0
          clear hq hf0 hf'
          go_wp2_with fail
          go_meet
          exact ⟨by rw [HF0.out], rfl⟩
      case rest =>
        obtain ⟨rfl, hww⟩ := hcut
        have hww := hww.symm
        subst hww
        go_upto_region 8 with (fail)
        go_cut [11] (fun s w' => s = .int .i64 (((f + (m + 1)) : Nat) : Int) ∧ w' = w)
        case first =>
          rcases hmin with hmin | hmin
          · have e : ((f + (m + 1) : Nat) : Int) = (f : Int) + (cols : Int) := by have := HM.out; omega
            have HE := Hd.mk e
            clear e
            go_wp2_with fail
            go_meet
            exact ⟨by rw [HE.out], rfl⟩
          · have e : ((f + (m + 1) : Nat) : Int) = (cells.length : Int) := by have := HM.out; omega
            have HE := Hd.mk e
            clear e
            go_wp2_with fail
            go_meet
            exact ⟨by rw [HE.out], rfl⟩
        case rest =>
          obtain ⟨rfl, hww⟩ := hcut
          have hww := hww.symm
          subst hww
          go_wp2_with fail
          refine (lone_calls _ _ _ HSL.out HSB.out).mono ?_
          rintro e w2 ⟨v2, rfl, o2, hb2⟩
          have hrl : (loneF ((cells.take (f + (m + 1))).drop f)).length = m + 1 := by rw [loneF_len]; exact HSN.out
          obtain ⟨row, hrow⟩ : ∃ row, loneF ((cells.take (f + (m + 1))).drop f) = row := ⟨_, rfl⟩
          rw [hrow] at o2 hrl
          have HROW := Hd.mk hrow
          have HO2 := Hd.mk o2
          have HB2 := Hd.mk hb2
          have HRL := Hd.mk hrl
          obtain ⟨g, cap, rfl, hg1, hg2⟩ := OC.form o2 hrl (by omega)
          clear hrow o2 hb2 hrl
          obtain ⟨row1, hrow1⟩ : ∃ row1, (if 0 < f then row.set 0 ltC else row) = row1 := ⟨_, rfl⟩
          have HR1 := Hd.mk hrow1
          have hr1l : row1.length = m + 1 := by rw [← hrow1]; split <;> simp [HRL.out]
          have HR1L := Hd.mk hr1l
          clear hrow1 hr1l
          by_cases hf0 : 0 < f
          · have hr1e := HR1.out
            rw [if_pos hf0] at hr1e
            have HR1E := Hd.mk hr1e
            clear hr1e
            obtain ⟨⟨x0, k0⟩, ⟨x1, k1⟩, ⟨x2, k2⟩⟩ := HO2.out.cells3 (k := 0) (by rw [HRL.out]; omega)
            obtain ⟨e0, e1, e2⟩ := own3 HO2.out (k := 0) (by rw [HRL.out]; omega)
            simp only [Nat.zero_mul, Nat.zero_add] at k0 k1 k2 e0 e1 e2
            go_upto_region 12 with (fail)
            generalize hW : ((w2.setCell ⟨g, 0, none⟩ (.string ⟨#[60]⟩)).setCell ⟨g, 1, none⟩ (.int .i64 1)).setCell ⟨g, 2, none⟩ (.int .i64 0) = w3
            have HO3 : Hd (OC w3 w.heap.size (.slice (some ⟨g, 0, none⟩) (m + 1) cap) row1) := ⟨by rw [← hW, ← HR1E.out]; exact OC.set0 HO2.out (by rw [HRL.out]; omega) ltC⟩
            have HB3 : Hd (Below w.heap.size w w3) := ⟨by rw [← hW]; exact below_set3 HB2.out hg1 hg1 hg1 _ _ _⟩
            clear hW k0 k1 k2 e0 e1 e2
            by_cases hto : f + (m + 1) < cells.length
            · have hr2 : acrossF cells cols at_ = (loneF (row1.set m gtC), at_ - f) := by
                rw [HAC.out]; simp only [HROW.out, HR1E.out, if_pos hf0, HR1L.out, if_pos hto, Nat.add_sub_cancel]
              have HR2 := Hd.mk hr2
              clear hr2
              obtain ⟨⟨x0, k0⟩, ⟨x1, k1⟩, ⟨x2, k2⟩⟩ := HO3.out.cells3 (k := m) (by rw [HR1L.out]; omega)
              obtain ⟨e0, e1, e2⟩ := own3 HO3.out (k := m) (by rw [HR1L.out]; omega)
              go_upto_region 14 with (fail)
              generalize hW : ((w3.setCell ⟨g, m * 3, none⟩ (.string ⟨#[62]⟩)).setCell ⟨g, m * 3 + 1, none⟩ (.int .i64 1)).setCell ⟨g, m * 3 + 2, none⟩ (.int .i64 0) = w4
              have HO4 : Hd (OC w4 w.heap.size (.slice (some ⟨g, 0, none⟩) (m + 1) cap) (row1.set m gtC)) := ⟨by rw [← hW]; exact OC.set3 HO3.out (by rw [HR1L.out]; omega) gtC⟩
              have HB4 : Hd (Below w.heap.size w w4) := ⟨by rw [← hW]; exact below_set3 HB3.out hg1 hg1 hg1 _ _ _⟩
              have hsb4 : (row1.set m gtC).length * 32 ≤ 140737488355328 := by simp only [List.length_set, HR1L.out]; omega
              have HSB4 := Hd.mk hsb4
              have HLEN4 : Hd ((row1.set m gtC).length = m + 1) := ⟨by simp [HR1L.out]⟩
              clear hW k0 k1 k2 e0 e1 e2 hsb4
              go_wp2_with fail
              refine (lone_calls _ (row1.set m gtC) w4 (by have := OC.rc HO4.out; exact this) HSB4.out).mono ?_
              rintro e w5 ⟨v5, rfl, o5, hb5⟩
              have HO5 := Hd.mk o5
              have HB5 := Hd.mk hb5
              clear o5 hb5
              go_wp2_with fail
              go_ret2
              rw [HR2.out]
              exact ⟨_, retT2 HCAST.out, HO5.out.mono (Nat.le_trans hB HB4.out.size), below_then HB4.out HB4.out.size HB5.out⟩
            · have hr2 : acrossF cells cols at_ = (loneF row1, at_ - f) := by
                rw [HAC.out]; simp only [HROW.out, HR1E.out, if_pos hf0, HR1L.out, if_neg hto, Nat.add_sub_cancel]
              have HR2 := Hd.mk hr2
              clear hr2
              have hsb4 : row1.length * 32 ≤ 140737488355328 := by rw [HR1L.out]; omega
              have HSB4 := Hd.mk hsb4
              clear hsb4
              go_wp2_with fail
              refine (lone_calls _ row1 w3 (by have := OC.rc HO3.out; exact this) HSB4.out).mono ?_
              rintro e w5 ⟨v5, rfl, o5, hb5⟩
              have HO5 := Hd.mk o5
              have HB5 := Hd.mk hb5
              clear o5 hb5
              go_wp2_with fail
              go_ret2
              rw [HR2.out]
              exact ⟨_, retT2 HCAST.out, HO5.out.mono (Nat.le_trans hB HB3.out.size), below_then HB3.out HB3.out.size HB5.out⟩
          · have hr1e := HR1.out
            rw [if_neg hf0] at hr1e
            have HR1E := Hd.mk hr1e
            clear hr1e
            obtain ⟨w3, hw3⟩ : ∃ w3, w3 = w2 := ⟨_, rfl⟩
            subst hw3
            have HO3 : Hd (OC w3 w.heap.size (.slice (some ⟨g, 0, none⟩) (m + 1) cap) row1) := ⟨by rw [← HR1E.out]; exact HO2.out⟩
            have HB3 := HB2
            go_upto_region 12 with (fail)
            by_cases hto : f + (m + 1) < cells.length
            · have hr2 : acrossF cells cols at_ = (loneF (row1.set m gtC), at_ - f) := by
                rw [HAC.out]; simp only [HROW.out, HR1E.out, if_neg hf0, HR1L.out, if_pos hto, Nat.add_sub_cancel]
              have HR2 := Hd.mk hr2
              clear hr2
              obtain ⟨⟨x0, k0⟩, ⟨x1, k1⟩, ⟨x2, k2⟩⟩ := HO3.out.cells3 (k := m) (by rw [HR1L.out]; omega)
              obtain ⟨e0, e1, e2⟩ := own3 HO3.out (k := m) (by rw [HR1L.out]; omega)
              go_upto_region 14 with (fail)
              generalize hW : ((w3.setCell ⟨g, m * 3, none⟩ (.string ⟨#[62]⟩)).setCell ⟨g, m * 3 + 1, none⟩ (.int .i64 1)).setCell ⟨g, m * 3 + 2, none⟩ (.int .i64 0) = w4
              have HO4 : Hd (OC w4 w.heap.size (.slice (some ⟨g, 0, none⟩) (m + 1) cap) (row1.set m gtC)) := ⟨by rw [← hW]; exact OC.set3 HO3.out (by rw [HR1L.out]; omega) gtC⟩
              have HB4 : Hd (Below w.heap.size w w4) := ⟨by rw [← hW]; exact below_set3 HB3.out hg1 hg1 hg1 _ _ _⟩
              have hsb4 : (row1.set m gtC).length * 32 ≤ 140737488355328 := by simp only [List.length_set, HR1L.out]; omega
              have HSB4 := Hd.mk hsb4
              have HLEN4 : Hd ((row1.set m gtC).length = m + 1) := ⟨by simp [HR1L.out]⟩
              clear hW k0 k1 k2 e0 e1 e2 hsb4
              go_wp2_with fail
              refine (lone_calls _ (row1.set m gtC) w4 (by have := OC.rc HO4.out; exact this) HSB4.out).mono ?_
              rintro e w5 ⟨v5, rfl, o5, hb5⟩
              have HO5 := Hd.mk o5
              have HB5 := Hd.mk hb5
              clear o5 hb5
              go_wp2_with fail
              go_ret2
              rw [HR2.out]
              exact ⟨_, retT2 HCAST.out, HO5.out.mono (Nat.le_trans hB HB4.out.size), below_then HB4.out HB4.out.size HB5.out⟩
            · have hr2 : acrossF cells cols at_ = (loneF row1, at_ - f) := by
                rw [HAC.out]; simp only [HROW.out, HR1E.out, if_neg hf0, HR1L.out, if_neg hto, Nat.add_sub_cancel]
              have HR2 := Hd.mk hr2
              clear hr2
              have hsb4 : row1.length * 32 ≤ 140737488355328 := by rw [HR1L.out]; omega
              have HSB4 := Hd.mk hsb4
              clear hsb4
              go_wp2_with fail
              refine (lone_calls _ row1 w3 (by have := OC.rc HO3.out; exact this) HSB4.out).mono ?_
              rintro e w5 ⟨v5, rfl, o5, hb5⟩
              have HO5 := Hd.mk o5
              have HB5 := Hd.mk hb5
              clear o5 hb5
              go_wp2_with fail
              go_ret2
              rw [HR2.out]
              exact ⟨_, retT2 HCAST.out, HO5.out.mono (Nat.le_trans hB HB3.out.size), below_then HB3.out HB3.out.size HB5.out⟩
end Go.Proofs.YthpfhlhoekgpjaaDoor
