/- Decoder.Put at one byte of one rune. -/
import Derived.Test.YtnolkpknoljacaaDoorWc
import Derived.Test.YtnolkpknoljacaaDoorWp
set_option linter.unusedVariables false
set_option linter.unusedSimpArgs false
namespace Go.Proofs.YtnolkpknoljacaaDoor
open Go.RowKit Go.Lib

def byt (s : ByteArray) (k : Nat) : List Int := (List.range k).map fun j => (bAt s j : Int)
theorem byt_len (s : ByteArray) (k : Nat) : (byt s k).length = k := by simp [byt]
theorem byt_succ (s : ByteArray) (k : Nat) : byt s (k + 1) = byt s k ++ [(bAt s k : Int)] := by simp [byt, List.range_succ]
theorem byt_at (s : ByteArray) {k j : Nat} (h : j < k) : (u8l (byt s k))[j]? = some (.int .u8 (bAt s j)) := by simp [byt, u8l, h]
theorem PF.tabs {w0 w : World} {pb db : Nat} {st many : Int} {a : AV} {pl : List Int} {acts : List AV} {vo bv : Value} (h : PF w0 w0.heap.size pb db st a pl many acts vo bv w) (hT : Tabs w0) : Tabs w := hT.below h.bel
theorem full_at (s : ByteArray) (r m g off cap : Nat) (w : World) (hT : Tabs w) (hE : REnc s r) (hm : 1 ≤ m) (hms : m ≤ s.size) (hc : ∀ j, j < m → w.cell? ⟨g, off + j, none⟩ = some (.int .u8 (bAt s j))) :
    Calls Tryd.prog 76 #[.slice (some ⟨g, off, none⟩) m cap] w fun e w' => e = .returned (.bool (decide (s.size ≤ m))) ∧ Below w.heap.size w w' := by
  have h4 := hE.s4
  have hl := hE.lead m hm
  refine (full_calls m (bAt s 0) (bAt s 1) (bAt s 2) g off cap w hT hm (by omega) (lt256 s 0) (hc 0 hm) (fun h => hc 1 h) (fun h => hc 2 h) (fun h => hE.acc (by omega)) (fun h => hE.c2 (by omega)) (fun h => hE.lead5 ?_)).mono ?_
  · have : ¬ s.size ≤ m := fun hh => by have := hl.2 hh; omega
    omega
  · rintro e w' ⟨rfl, hb⟩
    exact ⟨by simp only [hl], hb⟩
theorem dec_at (s : ByteArray) (r g off cap : Nat) (w : World) (hT : Tabs w) (hE : REnc s r) (hc : ∀ j, j < s.size → w.cell? ⟨g, off + j, none⟩ = some (.int .u8 (bAt s j))) :
    Calls Tryd.prog 57 #[.slice (some ⟨g, off, none⟩) s.size cap] w fun e w' => e = .returned (.tuple #[.int .i32 r, .int .i64 s.size]) ∧ Below w.heap.size w w' := by
  refine (decode_calls s g off cap w hT hc).mono ?_
  rintro e w' ⟨rfl, hb⟩
  exact ⟨by rw [hE.dec], hb⟩

set_option maxRecDepth 100000 in
set_option maxHeartbeats 4000000 in
theorem dputA_calls {w0 w : World} {pb db : Nat} {st many : Int} {a : AV} {pl : List Int} {acts : List AV} {vo bv : Value} (s : ByteArray) (r k q c : Nat) (hT : Tabs w0) (hE : REnc s r) (hk : k + 1 < s.size)
    (hq : w.cell? ⟨q, 0, none⟩ = some (.int .u8 (bAt s k))) (h : PF w0 w0.heap.size pb db st a pl many acts vo bv w) (ho : OBy w0.heap.size bv (byt s k) w) :
    Calls Tryd.prog 59 #[.pointer (some ⟨db, 0, none⟩), .slice (some ⟨q, 0, none⟩) 1 c] w fun e w' => e = .returned (.slice none 0 0) ∧ ∃ bv', PF w0 w0.heap.size pb db st a pl many acts vo bv' w' ∧ OBy w0.heap.size bv' (byt s (k + 1)) w' := by
  have H := Hd.mk h
  have HO := Hd.mk ho
  have HQ := Hd.mk hq
  have HT := Hd.mk hT
  obtain ⟨A0, c0, rfl⟩ := ho.slice
  have x1 : w.cell? ⟨db, 1, none⟩ = some (.slice A0 (byt s k).length c0) := by rw [blk_cell h.dec]; rfl
  have hl : (byt s k).length ≤ 1000 := by rw [byt_len]; have := hE.s4; omega
  have hz := h.sz
  clear h ho hq hT
  go_enter Tryd.func59, Tryd.ntmps59
  go_wp2_with (first | (go_at_call 37; refine (dnone_calls H.out.dec).mono ?_; rintro e w' ⟨rfl, rfl⟩) | (at_builtin; refine oby_app rfl (.tmp 14) (.tmp 15) rfl w0.heap.size _ (byt s k) (bAt s k) q c rfl rfl HQ.out HO.out hz hl ?_))
  intro v1 w1 ho1 ht1
  rw [← byt_succ] at ho1
  obtain ⟨A1, c1, hv⟩ := ho1.slice
  rw [byt_len] at hv
  subst hv
  have HP1 := Hd.mk (H.out.touch ht1)
  have y1 : w1.cell? ⟨db, 1, none⟩ = some (.slice A0 (byt s k).length c0) := by rw [blk_cell HP1.out.dec]; rfl
  have f1 : w1.frozen? ⟨db, 1, none⟩ = false := blk_froz HP1.out.dec _
  have HP2 := Hd.mk (HP1.out.hold (.slice A1 (k + 1) c1))
  have HO2 := Hd.mk (ho1.touch ((Touch.refl (fun j => j = db) w1).setCell ⟨db, 1, none⟩ (.slice A1 (k + 1) c1) rfl) (fun j hj cs e => by subst hj; exact ne_type HP1.out.dec e (by decide) rfl))
  clear ho1 ht1 x1 hl
  go_wp2_with fail
  clear y1 f1
  generalize w1.setCell ⟨db, 1, none⟩ (.slice A1 (k + 1) c1) = w2 at *
  go_loopg [5] 0 (fun gk rv wr => rv = .slice none 0 0 ∧ Hd (wr = w2))
  case atStart => exact ⟨rfl, ⟨rfl⟩⟩
  case round =>
    obtain ⟨rfl, HW⟩ := hrel
    obtain rfl := HW.out
    clear HW
    obtain ⟨g, off, cap, hv, hg, hc⟩ := HO2.out.at_ (by rw [byt_succ]; simp)
    rw [byt_len] at hv
    injection hv with hv1 hv2 hv3
    subst hv1 hv3
    clear hv2
    have x1 : wr.cell? ⟨db, 1, none⟩ = some (.slice (some ⟨g, off, none⟩) (k + 1) c1) := by rw [blk_cell HP2.out.dec]; rfl
    have HC := Hd.mk (fun j (hj : j < k + 1) => hc j _ (byt_at s hj))
    have hpos : (0 : Int) < ((k + 1 : Nat) : Int) := by omega
    have HF := Hd.mk (show decide (s.size ≤ k + 1) = false by simp; omega)
    have HK := Hd.mk hk
    clear hc hk
    generalize hm : k + 1 = m at *
    have HMM := Hd.mk hm
    clear hm
    have hm1 : 1 ≤ m := by omega
    go_wp2_with (go_at_call 76; refine (full_at s r m g off c1 wr (HP2.out.tabs HT.out) hE hm1 (Nat.le_of_lt HK.out) HC.out).mono ?_; rw [HF.out]; rintro e w3 ⟨rfl, hb3⟩)
    have HP3 := Hd.mk (HP2.out.below hb3)
    have HO3 := Hd.mk (HO2.out.touch (Touch.of_below (S := fun _ => False) hb3) (fun _ h => h.elim))
    clear hb3
    go_wp2_with fail
    exact bodyPost_ret (v := .slice none 0 0) (by simp [results, Tryd.results59, go_sem]) rfl ⟨rfl, _, HP3.out, by rw [HMM.out]; exact HO3.out⟩
set_option maxRecDepth 100000 in
set_option maxHeartbeats 4000000 in
theorem dputB_calls {w0 w : World} {pb db : Nat} {st many : Int} {a : AV} {pl : List Int} {acts : List AV} {vo bv : Value} (s : ByteArray) (r k q c : Nat) (hT : Tabs w0) (hE : REnc s r) (hk : k + 1 = s.size)
    (hq : w.cell? ⟨q, 0, none⟩ = some (.int .u8 (bAt s k))) (h : PF w0 w0.heap.size pb db st a pl many acts vo bv w) (ho : OBy w0.heap.size bv (byt s k) w) :
    Calls Tryd.prog 59 #[.pointer (some ⟨db, 0, none⟩), .slice (some ⟨q, 0, none⟩) 1 c] w fun e w' => ∃ g' c', e = .returned (.slice (some ⟨g', 0, none⟩) 1 c') ∧ w'.cell? ⟨g', 0, none⟩ = some (.int .i32 r) ∧ ∃ bv', PF w0 w0.heap.size pb db st a pl many acts vo bv' w' ∧ OBy w0.heap.size bv' [] w' := by
  have H := Hd.mk h
  have HO := Hd.mk ho
  have HQ := Hd.mk hq
  have HT := Hd.mk hT
  obtain ⟨A0, c0, rfl⟩ := ho.slice
  have x1 : w.cell? ⟨db, 1, none⟩ = some (.slice A0 (byt s k).length c0) := by rw [blk_cell h.dec]; rfl
  have hl : (byt s k).length ≤ 1000 := by rw [byt_len]; have := hE.s4; omega
  have hz := h.sz
  clear h ho hq hT
  go_enter Tryd.func59, Tryd.ntmps59
  go_wp2_with (first | (go_at_call 37; refine (dnone_calls H.out.dec).mono ?_; rintro e w' ⟨rfl, rfl⟩) | (at_builtin; refine oby_app rfl (.tmp 14) (.tmp 15) rfl w0.heap.size _ (byt s k) (bAt s k) q c rfl rfl HQ.out HO.out hz hl ?_))
  intro v1 w1 ho1 ht1
  rw [← byt_succ, hk] at ho1
  obtain ⟨A1, c1, hv⟩ := ho1.slice
  rw [byt_len] at hv
  subst hv
  have HP1 := Hd.mk (H.out.touch ht1)
  have y1 : w1.cell? ⟨db, 1, none⟩ = some (.slice A0 (byt s k).length c0) := by rw [blk_cell HP1.out.dec]; rfl
  have f1 : w1.frozen? ⟨db, 1, none⟩ = false := blk_froz HP1.out.dec _
  have HP2 := Hd.mk (HP1.out.hold (.slice A1 s.size c1))
  have HO2 := Hd.mk (ho1.touch ((Touch.refl (fun j => j = db) w1).setCell ⟨db, 1, none⟩ (.slice A1 s.size c1) rfl) (fun j hj cs e => by subst hj; exact ne_type HP1.out.dec e (by decide) rfl))
  clear ho1 ht1 x1 hl
  go_wp2_with fail
  clear y1 f1
  generalize w1.setCell ⟨db, 1, none⟩ (.slice A1 s.size c1) = w2 at *
  go_loopg [5] 1 (fun gk rv wr => Hd ((gk = 1 ∧ rv = .slice none 0 0 ∧ wr = w2) ∨ (gk = 0 ∧ ∃ g' c', rv = .slice (some ⟨g', 0, none⟩) 1 c' ∧ wr.cell? ⟨g', 0, none⟩ = some (.int .i32 r) ∧ ∃ A c, PF w0 w0.heap.size pb db st a pl many acts vo (.slice A 0 c) wr ∧ OBy w0.heap.size (.slice A 0 c) [] wr)))
  case atStart => exact ⟨.inl ⟨rfl, rfl, rfl⟩⟩
  case round =>
    rcases hrel.out with ⟨rfl, rfl, rfl⟩ | ⟨rfl, g', c', rfl, hc0, A, c, hp, hoo⟩
    · clear hrel
      have hs1 := hE.s1
      obtain ⟨g, off, cap, hv, hg, hc⟩ := HO2.out.at_ (fun e => by have h0 := congrArg List.length e; rw [byt_len] at h0; exact absurd h0 (Nat.ne_of_gt hs1))
      rw [byt_len] at hv
      injection hv with hv1 hv2 hv3
      subst hv1 hv3
      clear hv2
      have x1 : wr.cell? ⟨db, 1, none⟩ = some (.slice (some ⟨g, off, none⟩) s.size c1) := by rw [blk_cell HP2.out.dec]; rfl
      have HC := Hd.mk (fun j (hj : j < s.size) => hc j _ (byt_at s hj))
      have hpos : (0 : Int) < (s.size : Int) := by omega
      have HF := Hd.mk (show decide (s.size ≤ s.size) = true by simp)
      have hcut := cut_from (P := Tryd.prog) 25 5 .i64 _ 1 1 Tryd.underlying25 Tryd.info5 (some ⟨g, off, none⟩) s.size c1 s.size (Nat.le_refl _)
      have HHC := Hd.mk hcut
      clear hc hcut
      go_wp2_with fail
      refine (full_at s r s.size g off c1 wr (HP2.out.tabs HT.out) hE hs1 (Nat.le_refl _) HC.out).mono ?_
      rw [HF.out]
      rintro e w3 ⟨rfl, hb3⟩
      have HP3 := Hd.mk (HP2.out.below hb3)
      have HO3 := Hd.mk (HO2.out.touch (Touch.of_below (S := fun _ => False) hb3) (fun _ h => h.elim))
      have HC3 := Hd.mk (fun j (hj : j < s.size) => below_cell hb3 (HC.out j hj))
      have y1 : w3.cell? ⟨db, 1, none⟩ = some (.slice (some ⟨g, off, none⟩) s.size c1) := by rw [blk_cell HP3.out.dec]; rfl
      clear hb3 x1 HC HP2 HO2
      go_wp2_with fail
      refine (dec_at s r g off c1 w3 (HP3.out.tabs HT.out) hE HC3.out).mono ?_
      rintro e w4 ⟨rfl, hb4⟩
      have HP4 := Hd.mk (HP3.out.below hb4)
      have HO4 := Hd.mk (HO3.out.touch (Touch.of_below (S := fun _ => False) hb4) (fun _ h => h.elim))
      have hz4 := HP4.out.sz
      have HE4 := Hd.mk (World.ownsRow_nil w4 w0.heap.size 21 1)
      clear hb4 y1 HP3 HO3 HC3
      have hb8 : (0 + 1) * 4 ≤ 140737488355328 := by omega
      go_wp2_with (at_builtin; refine app_lit rfl (.tmp 40) (.tmp 42) 22 21 _ 1 4 rfl Tryd.underlying22 Tryd.info21 rfl (by decide) (by decide) w0.heap.size (.slice none 0 0) 0 1 [] _ rfl rfl rfl ?h1 HE4.out hz4 hb8 ?_)
      case h1 => exact rfl
      intro v5 w5 hown5 hgr5 hat5
      have hT5 := Touch.of_grown hgr5
      obtain ⟨g5, c5, hv5, _, _, _, _⟩ := own_form hown5 (by decide)
      subst hv5
      have HV5 := Hd.mk (World.ownsRow.cellAt hown5 0 (by decide))
      have HP5 := Hd.mk (HP4.out.touch (hT5.mono (fun k hk e => by simp [Value.ownBlock] at e)))
      have HO5 := Hd.mk (HO4.out.touch hT5 (fun k hk cs e => by simp [Value.ownBlock] at hk))
      have y1 : w5.cell? ⟨db, 1, none⟩ = some (.slice (some ⟨g, off, none⟩) s.size c1) := by rw [blk_cell HP5.out.dec]; rfl
      have f1 : w5.frozen? ⟨db, 1, none⟩ = false := blk_froz HP5.out.dec _
      have HG5 := Hd.mk (own_typed hown5 (k := g5) rfl)
      clear hT5 hgr5 hat5 hown5
      have HFIN : Hd (∀ A6 c6, OBy w0.heap.size (.slice A6 0 c6) [] w5 → ((w5.setCell ⟨db, 1, none⟩ (.slice A6 0 c6)).cell? ⟨g5, 0, none⟩ = some (.int .i32 r) ∧ ∃ A c, PF w0 w0.heap.size pb db st a pl many acts vo (.slice A 0 c) (w5.setCell ⟨db, 1, none⟩ (.slice A6 0 c6)) ∧ OBy w0.heap.size (.slice A 0 c) [] (w5.setCell ⟨db, 1, none⟩ (.slice A6 0 c6)))) := by
        refine ⟨fun A6 c6 hO => ⟨?_, A6, c6, HP5.out.hold _, ?_⟩⟩
        · exact ((Touch.refl (fun j => j = db) w5).setCell ⟨db, 1, none⟩ (.slice A6 0 c6) rfl).cell HV5.out (fun e => by obtain ⟨cur, h9⟩ := HG5.out; exact ne_type h9 HP5.out.dec (by decide) e)
        · exact hO.touch ((Touch.refl (fun j => j = db) w5).setCell ⟨db, 1, none⟩ (.slice A6 0 c6) rfl) (fun j hj cs e => by subst hj; exact ne_type HP5.out.dec e (by decide) rfl)
      have HC5 := Hd.mk (OBy.cut HO5.out)
      by_cases hcc : c1 = s.size
      · have HC6 : Hd (OBy w0.heap.size (.slice (some ⟨g, off, none⟩) 0 0) [] w5) := ⟨by have := HC5.out; rw [if_pos hcc, hcc, Nat.sub_self] at this; exact this⟩
        subst hcc
        clear HC5
        go_wp2_with fail
        go_roundg 0
        case measure => omega
        case rel => exact ⟨.inr ⟨rfl, _, _, rfl, HFIN.out _ _ HC6.out⟩⟩
      · have HC6 : Hd (OBy w0.heap.size (.slice (some ⟨g, off + s.size, none⟩) 0 (c1 - s.size)) [] w5) := ⟨by have := HC5.out; rw [if_neg hcc, Nat.sub_self, Option.map_some, add_plain, Nat.mul_one] at this; exact this⟩
        clear HC5
        go_wp2_with fail
        go_roundg 0
        case measure => omega
        case rel => exact ⟨.inr ⟨rfl, _, _, rfl, HFIN.out _ _ HC6.out⟩⟩
    · clear hrel
      have HP3 := Hd.mk hp
      have HO3 := Hd.mk hoo
      have HC3 := Hd.mk hc0
      have y1 : wr.cell? ⟨db, 1, none⟩ = some (.slice A 0 c) := by rw [blk_cell hp.dec]; rfl
      clear hp hoo hc0
      go_wp2_with fail
      exact bodyPost_ret (v := .slice (some ⟨g', 0, none⟩) 1 c') (by simp [results, Tryd.results59, go_sem]) rfl ⟨_, _, rfl, HC3.out, _, HP3.out, HO3.out⟩
end Go.Proofs.YtnolkpknoljacaaDoor
