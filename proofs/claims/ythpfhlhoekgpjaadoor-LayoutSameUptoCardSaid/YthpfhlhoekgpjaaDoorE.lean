/- ucell.Cells (from column 0). -/
import Derived.Test.YthpfhlhoekgpjaaDoorD
set_option linter.unusedVariables false
set_option linter.unusedSimpArgs false
namespace Go.Proofs.YthpfhlhoekgpjaaDoor
open Go.RowKit

def spB : ByteArray := ⟨#[32]⟩
def blankC : Cell := oneC ⟨#[32]⟩
/-- What a rune does to the places ahead of it. -/
def cellsStep (out : List Cell) (r : Int) : List Cell :=
  if r = 9 then out ++ List.replicate (8 - out.length % 8) (oneC ⟨#[32]⟩)
  else if (0 ≤ r ∧ r < 32) ∨ r = 127 then out ++ [oneC ⟨#[94]⟩, oneC (Utf8.encode (if r = 127 then 63 else r + 64))]
  else if validB r = false ∨ controlB r = true then out ++ [oneC ⟨#[239, 191, 189]⟩]
  else if widthF r = 0 then joinF out (Utf8.encode r)
  else if widthF r = 2 then out ++ [⟨Utf8.encode r, 2, 0⟩, ⟨⟨#[]⟩, 0, 0⟩]
  else out ++ [oneC (Utf8.encode r)]
def cellsF (l : List Int) : List Cell := l.foldl cellsStep []
theorem joinF_len (l : List Cell) (s : ByteArray) : l.length ≤ (joinF l s).length ∧ (joinF l s).length ≤ l.length + 1 := by
  unfold joinF
  split
  · split
    · split <;> simp
    · simp
  · simp
theorem cellsStep_len (out : List Cell) (r : Int) : out.length ≤ (cellsStep out r).length ∧ (cellsStep out r).length ≤ out.length + 8 := by
  have hj := joinF_len out (Utf8.encode r)
  unfold cellsStep
  repeat' split
  all_goals (first | omega | (simp only [List.length_append, List.length_replicate, List.length_cons, List.length_nil]; omega))
theorem cellsF_succ (l : List Int) (k : Nat) (hk : k < l.length) : cellsF (l.take (k + 1)) = cellsStep (cellsF (l.take k)) l[k] := by
  unfold cellsF
  rw [List.take_succ_eq_append_getElem hk, List.foldl_append]
  rfl
theorem cellsF_len (l : List Int) : (cellsF l).length ≤ 8 * l.length := by
  have : ∀ (l : List Int) (out : List Cell), (l.foldl cellsStep out).length ≤ out.length + 8 * l.length := by
    intro l
    induction l with
    | nil => intro out; simp
    | cons r l ih => intro out; have := ih (cellsStep out r); have := cellsStep_len out r; simp only [List.foldl_cons, List.length_cons]; omega
  have := this l []
  simpa [cellsF] using this

theorem xor64 (r : Int) (h0 : 0 ≤ r) (h1 : r < 32) : bits BinOp.xor IntKind.i32 r 64 = r + 64 := by
  obtain ⟨n, rfl⟩ := Int.eq_ofNat_of_zero_le h0
  have h : ∀ n : Nat, n < 32 → bits BinOp.xor IntKind.i32 (n : Int) 64 = (n : Int) + 64 := by decide
  exact h n (by omega)
theorem xor127 : bits BinOp.xor IntKind.i32 127 64 = 63 := by decide
theorem rd_lit (W : World) (cs : Array Value) (e m : Nat) (hm : m ≤ maxLen) : Rd (W.alloc (.cells cs e)) (.slice (some ⟨W.heap.size, 0, none⟩) m m) m cs.toList :=
  ⟨_, m, rfl, Nat.le_refl _, hm, .inr ⟨W.heap.size, 0, rfl, fun j u hu => by
    rw [Nat.zero_add, World.cell?_alloc_new]
    simpa using hu⟩⟩

/-- The state of Cells' run: the captured variable out holds a row of the call's own with the places told so far. -/
structure St (w : World) (ob : Nat) (v : Value) (l : List Cell) (wr : World) : Prop where
  box : wr.heap[ob]? = some (.cells #[v] 35 (0, 0))
  own : OC wr w.heap.size v l
  ne : v.ownBlock ≠ some ob
  bel : Below w.heap.size w wr
  ge : w.heap.size ≤ ob
theorem St.touch {w wr w' : World} {ob : Nat} {v : Value} {l : List Cell} (h : St w ob v l wr) (hb : Below wr.heap.size wr w') : St w ob v l w' :=
  ⟨box_touch h.box (Touch.of_below (S := fun _ => False) hb) (fun e => e), below_own h.own hb, h.ne, below_then h.bel h.bel.size hb, h.ge⟩
theorem St.alloc {w wr : World} {ob : Nat} {v : Value} {l : List Cell} (h : St w ob v l wr) (o : Obj) : St w ob v l (wr.alloc o) := h.touch ((Below.refl _ _).alloc (Nat.le_refl _) _)
theorem St.one {w wr : World} {ob : Nat} {v : Value} {l : List Cell} (h : St w ob v l wr) (ts : List ByteArray) (n : Nat) (hn : n = ts.length) (hsz : (l.length + ts.length) * 32 ≤ 140737488355328) :
    Calls Tryd.prog 39 #[.slice (some ⟨wr.heap.size, 0, none⟩) n n, .pointer (some ⟨ob, 0, none⟩)] (wr.alloc (.cells (strs ts).toArray 9)) fun e w' => e = .returned (.tuple #[]) ∧ ∃ v', St w ob v' (l ++ ts.map oneC) w' := by
  subst hn
  have h1 := h.alloc (.cells (strs ts).toArray 9)
  have hob := box_lt h.box
  have hlt := own_lt h.own
  refine (one_calls w.heap.size ob v _ l ts _ h1.box h1.ne h1.own (rd_lit wr _ 9 _ (by unfold maxLen; omega)) (by simp [blk]; omega) ?_ (by have := h1.bel.size; exact this) hsz).mono ?_
  · intro k hk e
    simp [blk] at hk
    have := hlt k e
    omega
  · rintro e w' ⟨rfl, v', b1, b2, b3, b4, b5⟩
    refine ⟨rfl, v', b1, b2, b3, ?_, h.ge⟩
    refine h1.bel.trans (b5.below ?_ h1.bel.size)
    rintro k hk (e | e)
    · have := h.ge; omega
    · have := (hlt k e.symm).1; omega

theorem St.join {w wr : World} {ob : Nat} {v : Value} {l : List Cell} (h : St w ob v l wr) (r : Int) (hsz : (l.length + 1) * 32 ≤ 140737488355328) :
    Calls Tryd.prog 40 #[v, .int .i32 r] wr fun e w' => ∃ v', e = .returned v' ∧ w'.cell? ⟨ob, 0, none⟩ = some v ∧ w'.frozen? ⟨ob, 0, none⟩ = false ∧ (∃ A c, v' = .slice A (joinF l (Utf8.encode r)).length c) ∧ Hd (St w ob v' (joinF l (Utf8.encode r)) (w'.setCell ⟨ob, 0, none⟩ v')) := by
  have hob := box_lt h.box
  refine (join_calls w.heap.size v l r wr h.own h.bel.size hsz).mono ?_
  rintro e w' ⟨v', rfl, b2, b4, b5⟩
  have hbx := box_touch h.box b5 (fun e => h.ne e.symm)
  have hne : v'.ownBlock ≠ some ob := by
    rcases b4 with e | ⟨g, e, hg⟩
    · rw [e]; exact h.ne
    · rw [e]; intro hh; injection hh with hh; omega
  obtain ⟨k1, k2⟩ := box_cell hbx
  refine ⟨v', rfl, k1, k2, own_slice b2, ⟨⟨box_set hbx, Touch.own b2 (Touch.setCell (S := fun k => k = ob) (Touch.refl _ _) _ _ rfl) (fun j hj e => hne (by rw [hj, e])), hne, ?_, h.ge⟩⟩⟩
  refine Below.setCell ?_ h.ge _
  refine h.bel.trans (b5.below ?_ h.bel.size)
  intro k hk e
  have := (own_lt h.own k e.symm).1
  omega
/-- Behind an append to what the captured variable holds. -/
theorem St.grown {w wr w' : World} {ob : Nat} {v v' : Value} {l l' : List Cell} {n : Nat} {xs : List Value} (h : St w ob v l wr) (h1 : w'.ownsRow w.heap.size 37 3 v' n xs) (hn : n = l'.length) (hx : xs = encs l') (hg : wr.grownBy w' v.ownBlock) (hat : v'.ownBlock = v.ownBlock ∨ ∃ g, v'.ownBlock = some g ∧ wr.heap.size ≤ g) :
    w'.cell? ⟨ob, 0, none⟩ = some v ∧ w'.frozen? ⟨ob, 0, none⟩ = false ∧ Hd (St w ob v' l' (w'.setCell ⟨ob, 0, none⟩ v')) := by
  subst hn hx
  have hob := box_lt h.box
  have b5 := Touch.of_grown hg
  have hbx := box_touch h.box b5 (fun e => h.ne e.symm)
  have hne : v'.ownBlock ≠ some ob := by
    rcases hat with e | ⟨g, e, hg⟩
    · rw [e]; exact h.ne
    · rw [e]; intro hh; injection hh with hh; omega
  obtain ⟨k1, k2⟩ := box_cell hbx
  refine ⟨k1, k2, ⟨⟨box_set hbx, Touch.own h1 (Touch.setCell (S := fun k => k = ob) (Touch.refl _ _) _ _ rfl) (fun j hj e => hne (by rw [hj, e])), hne, ?_, h.ge⟩⟩⟩
  refine Below.setCell ?_ h.ge _
  refine h.bel.trans (b5.below ?_ h.bel.size)
  intro k hk e
  have := (own_lt h.own k e.symm).1
  omega

/-- A slice of runes that is read. -/
def nums (l : List Int) : List Value := l.map fun n => .int .i32 n
def RI (w : World) (v : Value) (l : List Int) : Prop := Rd w v l.length (nums l)

set_option maxRecDepth 100000 in
set_option maxHeartbeats 4000000 in
theorem cells_calls (v : Value) (l : List Int) (w : World) (hL : Laid w) (hv : RI w v l) (hn : l.length ≤ 1000000) :
    Calls Tryd.prog 16 #[v, .int .i64 0] w fun e w' => ∃ v', e = .returned v' ∧ OC w' w.heap.size v' (cellsF l) ∧ Below w.heap.size w w' := by
  obtain ⟨A, c, rfl, h1, h2, h3⟩ := hv
  have HL := Hd.mk hL
  clear hL
  go_enter Tryd.func16, Tryd.ntmps16
  go_wp2_with fail
  go_loopg [8, 14] l.length (fun gk r i wr => ∃ (k : Nat) (vr : Value), k + gk = l.length ∧ i = .int .i64 k ∧ Hd (St w w.heap.size vr (cellsF (l.take k)) wr))
  case atStart => exact ⟨0, .slice none 0 0, by omega, rfl, ⟨⟨heap_alloc_new w _, World.ownsRow_nil _ _ _ _, by simp [Value.ownBlock], (Below.refl _ _).alloc (Nat.le_refl _) _, Nat.le_refl _⟩⟩⟩
  case round =>
    obtain ⟨k, vr, hk, rfl, HR⟩ := hrel
    by_cases hlt : k < l.length
    · have hlen := cellsF_len (l.take k)
      have hstep := cellsF_succ l k hlt
      have hlen2 : (cellsF (l.take k)).length ≤ 8 * k := by simp at hlen; omega
      obtain ⟨b, q, rfl, hc⟩ : ∃ b o, A = some ⟨b, o, none⟩ ∧ ∀ j u, (nums l)[j]? = some u → w.cell? ⟨b, o + j, none⟩ = some u := by
        rcases h3 with h3 | h3
        · simp only [nums, List.map_eq_nil_iff] at h3; subst h3; simp at hlt
        · exact h3
      have g0 : wr.cell? ⟨b, q + k, none⟩ = some (.int .i32 l[k]) := below_cell HR.out.bel (hc k _ (by simp [nums, hlt]))
      have HC := Hd.mk hc
      have HS := Hd.mk hstep
      have HL1 := Hd.mk (HL.out.step HR.out.bel)
      have HK := Hd.mk hk
      have hgk : 0 < gk := by omega
      clear hc h3 hstep hlen hk
      generalize cellsF (l.take k) = out at *
      generalize l[k] = r at *
      have hsz : (out.length + 20) * 32 ≤ 140737488355328 := by omega
      by_cases c9 : r = 9
      · subst c9
        go_wp2_with fail
        refine (HR.out.one [⟨#[32]⟩] 1 rfl (by simp; omega)).mono ?_
        rintro e w1 ⟨rfl, v1, hs1⟩
        have HS1 := Hd.mk hs1
        clear hs1
        go_wp2_with fail
        obtain ⟨go, rfl⟩ : ∃ n : Nat, n = gk := ⟨_, rfl⟩
        go_loopg [29] (7 - out.length % 8) (fun g2 _ wr2 => ∃ (m : Nat) (o2 : List Cell) (v2 : Value), 1 ≤ m ∧ m + g2 = 8 - out.length % 8 ∧ o2.length ≤ 16 + out.length ∧ Hd (o2 = out ++ List.replicate m (oneC ⟨#[32]⟩)) ∧ Hd (St w w.heap.size v2 o2 wr2))
        case atStart => exact ⟨1, _, v1, by omega, by omega, by simp; omega, ⟨rfl⟩, HS1⟩
        case round =>
          obtain ⟨m, o2, v2, hm1, hm2, hl2, ho2, HS2⟩ := hrel
          have hl3 := congrArg List.length ho2.out
          simp only [List.length_append, List.length_replicate] at hl3
          obtain ⟨A2, c2, rfl⟩ := own_slice HS2.out.own
          obtain ⟨b0, b1⟩ := box_cell HS2.out.box
          by_cases hmod : ((o2.length : Int) % 8 = 0)
          · have HL3 := Hd.mk hl3
            clear hl3
            go_wp2_with fail
            go_roundg (go - 1)
            case measure => omega
            case rel =>
              have h1 := HL3.out
              refine ⟨k + 1, .slice A2 o2.length c2, by have := HK.out; omega, by go_num, ⟨?_⟩⟩
              rw [HS.out, show cellsStep out 9 = o2 by
                rw [ho2.out, cellsStep, if_pos rfl, show 8 - out.length % 8 = m by omega]]
              exact HS2.out
          · have HL3 := Hd.mk hl3
            clear hl3
            go_wp2_with fail
            refine (HS2.out.one [⟨#[32]⟩] 1 rfl (by simp; omega)).mono ?_
            rintro e w3 ⟨rfl, v3, hs3⟩
            have HS3 := Hd.mk hs3
            clear hs3
            go_wp2_with fail
            have h1 := HL3.out
            go_roundg (gk - 1)
            case measure => omega
            case rel => exact ⟨m + 1, _, v3, by omega, by omega, by simp; omega, ⟨by rw [ho2.out, List.replicate_succ', List.append_assoc]; rfl⟩, HS3⟩
      · have hs9 : r ≠ 9 := c9
        by_cases cc : 0 ≤ r ∧ r < 32
        · have HQ := Hd.mk (show cellsStep out r = out ++ [⟨#[94]⟩, Utf8.encode (bits BinOp.xor IntKind.i32 r 64)].map oneC by
            rw [cellsStep, if_neg c9, if_pos (.inl cc), xor64 r cc.1 cc.2, if_neg (by omega)]; rfl)
          obtain ⟨cc1, cc2⟩ := cc
          go_wp2_with fail
          refine (HR.out.one [⟨#[94]⟩, Utf8.encode (bits BinOp.xor IntKind.i32 r 64)] 2 rfl (by simp; omega)).mono ?_
          rintro e w1 ⟨rfl, v1, hs1⟩
          have HS1 := Hd.mk hs1
          clear hs1
          go_wp2_with fail
          go_roundg (gk - 1)
          case measure => omega
          case rel => exact ⟨k + 1, _, by have := HK.out; omega, by go_num, ⟨by rw [HS.out, HQ.out]; exact HS1.out⟩⟩
        · by_cases c127 : r = 127
          · have HQ := Hd.mk (show cellsStep out r = out ++ [⟨#[94]⟩, Utf8.encode (bits BinOp.xor IntKind.i32 127 64)].map oneC by
              rw [cellsStep, if_neg c9, if_pos (.inr c127), xor127, if_pos c127]; rfl)
            subst c127
            go_wp2_with fail
            refine (HR.out.one [⟨#[94]⟩, Utf8.encode (bits BinOp.xor IntKind.i32 127 64)] 2 rfl (by simp; omega)).mono ?_
            rintro e w1 ⟨rfl, v1, hs1⟩
            have HS1 := Hd.mk hs1
            clear hs1
            go_wp2_with fail
            go_roundg (gk - 1)
            case measure => omega
            case rel => exact ⟨k + 1, _, by have := HK.out; omega, by go_num, ⟨by rw [HS.out, HQ.out]; exact HS1.out⟩⟩
          · have hge : r < 0 ∨ 32 ≤ r := by omega
            have h127 : (r == 127) = false := beq_eq_false_iff_ne.2 c127
            have h9 : (r == 9) = false := beq_eq_false_iff_ne.2 c9
            have hcc : ¬ ((0 ≤ r ∧ r < 32) ∨ r = 127) := by rintro (h | h); exact cc h; exact c127 h
            by_cases cbad : validB r = false ∨ controlB r = true
            · have HQ := Hd.mk (show cellsStep out r = out ++ [⟨#[239, 191, 189]⟩].map oneC by
                rw [cellsStep, if_neg c9, if_neg hcc, if_pos cbad]; rfl)
              rcases hge with hge | hge
              · rcases cbad with cbad | cbad
                · go_wp2_with (first | (go_at_call 33; refine (is_calls _ _).mono ?_; rintro e w' ⟨rfl, rfl⟩) | (go_at_call 17; refine (control_calls _ _).mono ?_; rintro e w' ⟨rfl, rfl⟩))
                  refine (HR.out.one [⟨#[239, 191, 189]⟩] 1 rfl (by simp; omega)).mono ?_
                  rintro e w1 ⟨rfl, v1, hs1⟩
                  have HS1 := Hd.mk hs1
                  clear hs1
                  go_wp2_with fail
                  go_roundg (gk - 1)
                  case measure => omega
                  case rel => exact ⟨k + 1, _, by have := HK.out; omega, by go_num, ⟨by rw [HS.out, HQ.out]; exact HS1.out⟩⟩
                · cases cv : validB r
                  all_goals
                    go_wp2_with (first | (go_at_call 33; refine (is_calls _ _).mono ?_; rintro e w' ⟨rfl, rfl⟩) | (go_at_call 17; refine (control_calls _ _).mono ?_; rintro e w' ⟨rfl, rfl⟩))
                    refine (HR.out.one [⟨#[239, 191, 189]⟩] 1 rfl (by simp; omega)).mono ?_
                    rintro e w1 ⟨rfl, v1, hs1⟩
                    have HS1 := Hd.mk hs1
                    clear hs1
                    go_wp2_with fail
                    go_roundg (gk - 1)
                    case measure => omega
                    case rel => exact ⟨k + 1, _, by have := HK.out; omega, by go_num, ⟨by rw [HS.out, HQ.out]; exact HS1.out⟩⟩
              · rcases cbad with cbad | cbad
                · go_wp2_with (first | (go_at_call 33; refine (is_calls _ _).mono ?_; rintro e w' ⟨rfl, rfl⟩) | (go_at_call 17; refine (control_calls _ _).mono ?_; rintro e w' ⟨rfl, rfl⟩))
                  refine (HR.out.one [⟨#[239, 191, 189]⟩] 1 rfl (by simp; omega)).mono ?_
                  rintro e w1 ⟨rfl, v1, hs1⟩
                  have HS1 := Hd.mk hs1
                  clear hs1
                  go_wp2_with fail
                  go_roundg (gk - 1)
                  case measure => omega
                  case rel => exact ⟨k + 1, _, by have := HK.out; omega, by go_num, ⟨by rw [HS.out, HQ.out]; exact HS1.out⟩⟩
                · cases cv : validB r
                  all_goals
                    go_wp2_with (first | (go_at_call 33; refine (is_calls _ _).mono ?_; rintro e w' ⟨rfl, rfl⟩) | (go_at_call 17; refine (control_calls _ _).mono ?_; rintro e w' ⟨rfl, rfl⟩))
                    refine (HR.out.one [⟨#[239, 191, 189]⟩] 1 rfl (by simp; omega)).mono ?_
                    rintro e w1 ⟨rfl, v1, hs1⟩
                    have HS1 := Hd.mk hs1
                    clear hs1
                    go_wp2_with fail
                    go_roundg (gk - 1)
                    case measure => omega
                    case rel => exact ⟨k + 1, _, by have := HK.out; omega, by go_num, ⟨by rw [HS.out, HQ.out]; exact HS1.out⟩⟩
            · obtain ⟨cv, ccn⟩ : validB r = true ∧ controlB r = false := by
                rw [not_or] at cbad; simpa using cbad
              have hp : 32 ≤ r := by
                rcases hge with h | h
                · exfalso; simp only [validB, Bool.or_eq_true, Bool.and_eq_true, decide_eq_true_eq] at cv; omega
                · exact h
              have HG := Hd.mk (show cellsStep out r = if widthF r = 0 then joinF out (Utf8.encode r) else if widthF r = 2 then out ++ [⟨Utf8.encode r, 2, 0⟩, ⟨⟨#[]⟩, 0, 0⟩] else out ++ [Utf8.encode r].map oneC by
                rw [cellsStep, if_neg c9, if_neg hcc, if_neg cbad]; rfl)
              have he := encode_size r
              go_wp2_with (first | (go_at_call 33; refine (is_calls _ _).mono ?_; rintro e w' ⟨rfl, rfl⟩) | (go_at_call 17; refine (control_calls _ _).mono ?_; rintro e w' ⟨rfl, rfl⟩))
              refine (width_calls _ _ HL1.out).mono ?_
              rintro e w1 ⟨rfl, hb1⟩
              have HR1 := Hd.mk (HR.out.touch hb1)
              have HL2 := Hd.mk (HL1.out.step hb1)
              obtain ⟨b0, b1⟩ := box_cell HR1.out.box
              obtain ⟨Ar, cr, rfl⟩ := own_slice HR1.out.own
              by_cases w0 : widthF r = 0
              · have HQ := Hd.mk (HG.out.trans (if_pos w0))
                have w0b : (widthF r == 0) = true := beq_iff_eq.2 w0
                clear w0
                go_wp2_with fail
                refine (HR1.out.join r (by omega)).mono ?_
                rintro e w2 ⟨v2, rfl, d0, d1, ⟨A2, c2, rfl⟩, HS2⟩
                clear b0 b1
                go_wp2_with fail
                go_roundg (gk - 1)
                case measure => omega
                case rel => exact ⟨k + 1, .slice A2 _ c2, by have := HK.out; omega, by go_num, ⟨by rw [HS.out, HQ.out]; exact HS2.out⟩⟩
              · have w0b : (widthF r == 0) = false := beq_eq_false_iff_ne.2 w0
                have HG1 := Hd.mk (HG.out.trans (if_neg w0))
                clear w0
                go_wp2_with fail
                refine (width_calls _ _ HL2.out).mono ?_
                rintro e w2 ⟨rfl, hb2⟩
                have HR2 := Hd.mk (HR1.out.touch hb2)
                clear b0 b1
                obtain ⟨b0, b1⟩ := box_cell HR2.out.box
                by_cases w2 : widthF r = 2
                · have HQ := Hd.mk (HG1.out.trans (if_pos w2))
                  have w2b : (widthF r == 2) = true := beq_iff_eq.2 w2
                  clear w2
                  have hB2 := HR2.out.bel.size
                  have HOW := HR2.out.own
                  have HOWh := Hd.mk HOW
                  clear HOW
                  have hl2 : (out.length + 2) * 32 ≤ 140737488355328 := by omega
                  go_wp2_with (at_builtin; refine app_lit rfl (.tmp 78) (.tmp 83) 35 37 _ 3 32 rfl Tryd.underlying35 Tryd.info37 rfl (by decide) (by decide) w.heap.size _ _ 2 _ _ rfl rfl rfl ?h1 HOWh.out hB2 hl2 ?_)
                  case h1 => ((repeat' apply And.intro) <;> rfl)
                  intro v3 w3 hown3 hgr3 hat3
                  obtain ⟨A3, c3, rfl⟩ := own_slice hown3
                  obtain ⟨d0, d1, HS3⟩ := HR2.out.grown (l' := out ++ [⟨Utf8.encode r, 2, 0⟩, ⟨⟨#[]⟩, 0, 0⟩]) hown3 (by simp) (by simp [encs_append, encs_cons, Cell.enc]) hgr3 hat3
                  clear hown3 hgr3 hat3 b0 b1
                  go_wp2_with fail
                  go_roundg (gk - 1)
                  case measure => omega
                  case rel => exact ⟨k + 1, .slice A3 _ c3, by have := HK.out; omega, by go_num, ⟨by rw [HS.out, HQ.out]; exact HS3.out⟩⟩
                · have w2b : (widthF r == 2) = false := beq_eq_false_iff_ne.2 w2
                  have HQ := Hd.mk (HG1.out.trans (if_neg w2))
                  clear w2
                  go_wp2_with fail
                  refine (HR2.out.one [Utf8.encode r] 1 rfl (by simp; omega)).mono ?_
                  rintro e w3 ⟨rfl, v3, hs3⟩
                  have HS3 := Hd.mk hs3
                  clear hs3
                  go_wp2_with fail
                  go_roundg (gk - 1)
                  case measure => omega
                  case rel => exact ⟨k + 1, v3, by have := HK.out; omega, by go_num, ⟨by rw [HS.out, HQ.out]; exact HS3.out⟩⟩
    · obtain ⟨b0, b1⟩ := box_cell HR.out.box
      have hb := HR.out.bel
      have HO := HR.out.own
      rw [List.take_of_length_le (by omega)] at HO
      have HO2 := Hd.mk HO
      clear HO
      go_wp2_with fail
      go_ret
      exact ⟨vr, rfl, HO2.out, hb⟩
end Go.Proofs.YthpfhlhoekgpjaaDoor
