/- Put, All over the bytes of a text. -/
import Derived.Test.YtnolkpknoljacaaDoorWf
set_option linter.unusedVariables false
set_option linter.unusedSimpArgs false
namespace Go.Proofs.YtnolkpknoljacaaDoor
open Go.RowKit Go.Lib

theorem w64_in (n : Int) (h : -9223372036854775808 ≤ n ∧ n ≤ 9223372036854775807) : wrap64 n = n := by unfold wrap64; omega
def enc (r : Nat) : ByteArray := Utf8.encode (r : Int)
def eb (r : Nat) : List Nat := (List.range (enc r).size).map (bAt (enc r))
/-- The bytes of a text. -/
def tb (ns : List Nat) : List Nat := ns.flatMap eb
theorem eb_len (r : Nat) : (eb r).length = (enc r).size := by simp [eb]
theorem tb_app (a b : List Nat) : tb (a ++ b) = tb a ++ tb b := by simp [tb]
theorem tb_one (r : Nat) : tb [r] = eb r := by simp [tb]
theorem tb_at {done : List Nat} {r : Nat} {rest : List Nat} {k : Nat} (hk : k < (enc r).size) : (tb (done ++ r :: rest))[(tb done).length + k]? = some (bAt (enc r) k) := by
  rw [tb_app, List.getElem?_append_right (by omega), Nat.add_sub_cancel_left]
  show ((eb r ++ tb rest))[k]? = _
  rw [List.getElem?_append_left (by rw [eb_len]; exact hk)]
  simp [eb, hk]
def okR (r : Nat) : Prop := 32 ≤ r ∧ (r < 127 ∨ 159 < r) ∧ (r < 55296 ∨ 57344 ≤ r ∧ r ≤ 1114111)
theorem tb_le (ns : List Nat) (h : ∀ r ∈ ns, okR r) : ns.length ≤ (tb ns).length ∧ (tb ns).length ≤ 4 * ns.length := by
  induction ns with
  | nil => simp [tb]
  | cons r ns ih =>
    have h1 := ih (fun x hx => h x (.tail _ hx))
    have h2 := renc r (h r (.head _)).2.2
    have h3 := h2.s1
    have h4 := h2.s4
    have h5 : tb (r :: ns) = eb r ++ tb ns := rfl
    have h6 : (eb r).length = (enc r).size := eb_len r
    have h7 : (enc r).size = (Utf8.encode (r : Int)).size := rfl
    rw [h5]
    simp only [List.length_append, List.length_cons]
    omega
/-- Behind j bytes. -/
def Mid (w0 : World) (pb db : Nat) (ns : List Nat) (w : World) (j : Nat) : Prop :=
  ∃ done rest k vo bv, ns = done ++ rest ∧ j = (tb done).length + k ∧ (k = 0 ∨ ∃ r t, rest = r :: t ∧ k < (enc r).size ∧ OBy w0.heap.size bv (byt (enc r) k) w) ∧ (k = 0 → OBy w0.heap.size bv [] w) ∧
    PF w0 w0.heap.size pb db 0 zeroA [] 0 (done.map fun (r : Nat) => pa (r : Int)) vo bv w
theorem Mid.bel {w0 : World} {pb db : Nat} {ns : List Nat} {w : World} {j : Nat} (h : Mid w0 pb db ns w j) : Below w0.heap.size w0 w := by
  obtain ⟨_, _, _, _, _, _, _, _, _, h⟩ := h
  exact h.bel
theorem Mid.next {w0 : World} {pb db : Nat} {ns : List Nat} {w : World} {j : Nat} (h : Mid w0 pb db ns w j) (hj : j < (tb ns).length) (hok : ∀ r ∈ ns, okR r) (hT : Tabs w0) (hn : ns.length ≤ 1500000) :
    ∃ b, (tb ns)[j]? = some b ∧ Calls Tryd.prog 27 #[.pointer (some ⟨pb, 0, none⟩), .int .u8 b] w fun e w' => e = .returned (.tuple #[]) ∧ Mid w0 pb db ns w' (j + 1) := by
  obtain ⟨done, rest, k, vo, bv, rfl, rfl, hk, hO, hP⟩ := h
  cases rest with
  | nil =>
    rcases hk with rfl | ⟨r, t, e, _⟩
    · simp at hj
    · cases e
  | cons r t =>
    have hr := hok r (by simp)
    have hE := renc r hr.2.2
    have hE1 : REnc (enc r) r := hE
    have hkk : k < (enc r).size ∧ OBy w0.heap.size bv (byt (enc r) k) w := by
      rcases hk with rfl | ⟨r', t', e, h1, h2⟩
      · exact ⟨hE.s1, hO rfl⟩
      · cases e
        exact ⟨h1, h2⟩
    refine ⟨bAt (enc r) k, tb_at hkk.1, (oneR_calls (enc r) r k hT hE1 hkk.1 hr.1 hr.2.1 hP hkk.2 (by simp at hn ⊢; omega)).mono ?_⟩
    rintro e w' ⟨rfl, acts', vo', bv', hp, hh⟩
    refine ⟨rfl, ?_⟩
    rcases hh with ⟨h1, rfl, h3⟩ | ⟨h1, rfl, h3⟩
    · exact ⟨done, r :: t, k + 1, vo', bv', rfl, by omega, .inr ⟨r, t, rfl, h1, h3⟩, fun h => by omega, hp⟩
    · refine ⟨done ++ [r], t, 0, vo', bv', by simp, ?_, .inl rfl, fun _ => h3, by simpa using hp⟩
      rw [tb_app, tb_one, List.length_append, eb_len]
      omega
theorem Mid.last {w0 : World} {pb db : Nat} {ns : List Nat} {w : World} (hok : ∀ r ∈ ns, okR r) (h : Mid w0 pb db ns w (tb ns).length) :
    ∃ vo A c, OBy w0.heap.size (.slice A 0 c) [] w ∧ PF w0 w0.heap.size pb db 0 zeroA [] 0 (ns.map fun (r : Nat) => pa (r : Int)) vo (.slice A 0 c) w := by
  obtain ⟨done, rest, k, vo, bv, rfl, hj, hk, hO, hP⟩ := h
  cases rest with
  | nil =>
    rcases hk with rfl | ⟨r, t, e, _⟩
    · obtain ⟨A, c, rfl⟩ := (hO rfl).slice
      exact ⟨vo, A, c, hO rfl, by simpa using hP⟩
    · cases e
  | cons r t =>
    have h2 := (renc r (hok r (by simp)).2.2).s1
    have h3 : (eb r).length = (enc r).size := eb_len r
    have h7 : (enc r).size = (Utf8.encode (r : Int)).size := rfl
    have h4 : tb (done ++ r :: t) = tb done ++ (eb r ++ tb t) := by rw [tb_app]; rfl
    rw [h4] at hj
    simp only [List.length_append] at hj
    rcases hk with rfl | ⟨r', t', e, h1, _⟩
    · omega
    · cases e
      omega

set_option maxRecDepth 100000 in
set_option maxHeartbeats 4000000 in
theorem putR_calls {w0 w : World} {pb db : Nat} (ns : List Nat) (q c : Nat) (hok : ∀ r ∈ ns, okR r) (hT : Tabs w0) (hn : ns.length ≤ 1500000) (hq : q < w0.heap.size)
    (h : PF w0 w0.heap.size pb db 0 zeroA [] 0 [] (.slice none 0 0) (.slice none 0 0) w) (hc : ∀ (j b : Nat), (tb ns)[j]? = some b → w0.cell? ⟨q, j, none⟩ = some (.int .u8 (b : Int))) :
    Calls Tryd.prog 12 #[.pointer (some ⟨pb, 0, none⟩), .slice (some ⟨q, 0, none⟩) (tb ns).length c] w fun e w' => ∃ vo' A c, e = .returned vo' ∧ PF w0 w0.heap.size pb db 0 zeroA [] 0 [] (.slice none 0 0) (.slice A 0 c) w' ∧
      w'.ownsRow w0.heap.size 29 7 vo' ns.length (encA (ns.map fun (r : Nat) => pa (r : Int))) := by
  have H := Hd.mk h
  have HC := Hd.mk hc
  have HOK := Hd.mk hok
  have HT := Hd.mk hT
  have x11 : w.cell? ⟨pb, 11, none⟩ = some (.slice none 0 0) := h.c 11
  have f11 := h.f 11
  clear h hc hok hT
  go_enter Tryd.func12, Tryd.ntmps12
  go_wp2_with (go_at_call 26; refine (none_calls H.out).mono ?_; rintro e w' ⟨rfl, rfl⟩)
  have HP1 := Hd.mk (H.out.store 11 (.slice none 0 0) (st' := 0) (many' := 0) (a' := zeroA) (pl' := []) (acts' := []) (vo' := .slice none 0 0) rfl H.out.par H.out.out)
  clear x11 f11
  generalize w.setCell ⟨pb, 11, none⟩ (.slice none 0 0) = w1 at *
  obtain ⟨N, hN⟩ : ∃ N, N = (tb ns).length := ⟨_, rfl⟩
  rw [← hN]
  have HN := Hd.mk hN
  have hNb : N ≤ 6000000 := by have := (tb_le ns HOK.out).2; omega
  clear hN
  go_loopg [15] N (fun gk i wr => ∃ k : Nat, k + gk = N ∧ i = .int .i64 k ∧ Hd (Mid w0 pb db ns wr k))
  case atStart => exact ⟨0, by omega, rfl, ⟨[], ns, 0, _, _, rfl, rfl, .inl rfl, fun _ => OBy.nil _ _, HP1.out⟩⟩
  case round =>
    obtain ⟨k, hk, rfl, HS⟩ := hrel
    by_cases hlt : k < N
    · obtain ⟨b, hb, hcall⟩ := HS.out.next (by rw [← HN.out]; exact hlt) HOK.out HT.out hn
      have g0 : wr.cell? ⟨q, k, none⟩ = some (.int .u8 b) := (HS.out.bel.cell (p := ⟨q, k, none⟩) hq).trans (HC.out k b hb)
      have HCALL := Hd.mk hcall
      clear hcall hb
      go_wp2_with fail
      refine HCALL.out.mono ?_
      rintro e w2 ⟨rfl, h2⟩
      have HM := Hd.mk h2
      clear h2 g0 HCALL
      go_wp2_with fail
      go_roundg (gk - 1)
      case measure => omega
      case rel => exact ⟨k + 1, by omega, by first | (rw [Int.natCast_add]; rfl) | (rw [w64_in _ (by omega), Int.natCast_add]; rfl), HM⟩
    · obtain rfl : k = N := by omega
      obtain ⟨vo', A, c', hOy, hP⟩ := Mid.last HOK.out (by rw [← HN.out]; exact HS.out)
      have HP := Hd.mk hP
      have x11 : wr.cell? ⟨pb, 11, none⟩ = some vo' := hP.c 11
      have f11 := hP.f 11
      obtain ⟨Ao, co, rfl⟩ := own_slice hP.out
      clear hP hOy
      go_wp2_with fail
      have hT := (Touch.refl (fun j => j = pb) wr).setCell ⟨pb, 11, none⟩ (.slice none 0 0) rfl
      refine bodyPost_ret (v := .slice Ao (ns.map fun (r : Nat) => pa (r : Int)).length co) (by simp [results, Tryd.results12, go_sem]) rfl ⟨_, A, c', rfl,
        HP.out.store 11 (.slice none 0 0) (st' := 0) (many' := 0) (a' := zeroA) (pl' := []) (acts' := []) (vo' := .slice none 0 0) rfl HP.out.par (World.ownsRow_nil _ _ _ _), ?_⟩
      have := Touch.own HP.out.out hT (fun k hk e => own_not HP.out.out HP.out.box (by decide) ((congrArg some e).symm.trans hk.symm))
      simpa using this

set_option maxRecDepth 100000 in
set_option maxHeartbeats 4000000 in
theorem allR_calls (ns : List Nat) (q c : Nat) (w : World) (hok : ∀ r ∈ ns, okR r) (hT : Tabs w) (hn : ns.length ≤ 1500000) (hq : q < w.heap.size) (hc : ∀ (j b : Nat), (tb ns)[j]? = some b → w.cell? ⟨q, j, none⟩ = some (.int .u8 (b : Int))) :
    Calls Tryd.prog 7 #[.slice (some ⟨q, 0, none⟩) (tb ns).length c] w fun e w' => ∃ vo', e = .returned vo' ∧ w'.ownsRow w.heap.size 29 7 vo' ns.length (encA (ns.map fun (r : Nat) => pa (r : Int))) ∧ Below w.heap.size w w' := by
  have HC := Hd.mk hc
  have HOK := Hd.mk hok
  have HT := Hd.mk hT
  clear hc hok hT
  go_enter Tryd.func7, Tryd.ntmps7
  go_wp2_with fail
  refine (new_calls w).mono ?_
  rintro e w1 ⟨rfl, h1⟩
  have H1 := Hd.mk h1
  clear h1
  go_wp2_with fail
  refine (putR_calls ns q c HOK.out HT.out hn hq H1.out HC.out).mono ?_
  rintro e w2 ⟨vo, A2, c2, rfl, h2, ho2⟩
  have H2 := Hd.mk h2
  have HO2 := Hd.mk ho2
  obtain ⟨Ao, co, rfl⟩ := own_slice ho2
  have x1 : w2.cell? ⟨w.heap.size + 1, 1, none⟩ = some (.int .i64 0) := h2.c 1
  have x2 : w2.cell? ⟨w.heap.size + 1, 2, none⟩ = some (.pointer (some ⟨w.heap.size, 0, none⟩)) := h2.c 2
  clear h2 ho2
  go_wp2_with fail
  refine (flush0_calls H2.out.dec).mono ?_
  rintro e w3 ⟨rfl, rfl⟩
  have H3 := Hd.mk (H2.out.hold (.slice none 0 0))
  have hT := (Touch.refl (fun j => j = w.heap.size) w2).setCell ⟨w.heap.size, 1, none⟩ (.slice none 0 0) rfl
  have HO3 := Hd.mk (Touch.own HO2.out hT (fun k hk e => own_not HO2.out H2.out.dec (by decide) (by rw [hk, e])))
  clear hT x1 x2
  generalize w2.setCell ⟨w.heap.size, 1, none⟩ (.slice none 0 0) = w3 at *
  have x11 : w3.cell? ⟨w.heap.size + 1, 11, none⟩ = some (.slice none 0 0) := H3.out.c 11
  have hz := H3.out.sz
  have hrd : Rd w3 (.slice none 0 0) 0 [] := ⟨none, 0, rfl, Nat.le_refl _, Nat.zero_le _, .inl rfl⟩
  have HRD := Hd.mk hrd
  clear hrd
  have hb72 : (ns.length + 0) * 72 ≤ 140737488355328 := by omega
  go_wp2_with (first
    | (go_at_call 23; refine (print0_calls _ _).mono ?_; rintro e w' ⟨rfl, rfl⟩)
    | (at_builtin; refine app_rd rfl (.tmp 21) (.tmp 25) 23 29 _ 7 72 rfl Tryd.underlying23 Tryd.info29 rfl (by decide) (by decide) w.heap.size _ _ ns.length 0 _ [] rfl rfl HRD.out rfl (by simp) HO3.out hz hb72 ?_))
  intro v5 w5 hown5 hgr5 hat5
  obtain ⟨A5, c5, rfl⟩ := own_slice hown5
  have HB5 := Hd.mk (H3.out.bel.grown hgr5 hz (fun j hj => (own_lt HO3.out j hj).1))
  have HO5 := Hd.mk hown5
  clear hown5 hgr5 hat5
  go_wp2_with fail
  exact bodyPost_ret (v := .slice A5 (ns.length + 0) c5) (by simp [results, Tryd.results7, go_sem]) rfl ⟨_, rfl, by simpa using HO5.out, HB5.out⟩
end Go.Proofs.YtnolkpknoljacaaDoor
