/-
  SendPlays: a sender, new or as it stood, and any calls: every answer; at the end all that it tells; made anew out of that it goes on as it would have. For every input.
-/
import Derived.Test.YtehdhdocalbfpaaPlayO
import Derived.Test.YtehdhdocalbfpaaSendN
import Derived.SizedLaws
namespace Go.Proofs.Ytehdhdocalbfpaa
open Go.RowKit Go.Shelf Go.ChangeShapes Go.WideShapes Go.ChangeAt
set_option linter.unusedVariables false

theorem cells45 : Try.prog.cellsOf 45 = 7 := by kernel_rfl
theorem cells51 : Try.prog.cellsOf 51 = 1 := by kernel_rfl
theorem seven_of {α : Type} {l : List α} (h : l.length = 7) : ∃ a b c d e f g, l = [a, b, c, d, e, f, g] := by
  match l, h with
  | [a, b, c, d, e, f, g], _ => exact ⟨a, b, c, d, e, f, g, rfl⟩
theorem eight_of' {α : Type} {l : List α} (h : l.length = 8) : ∃ a b c d e f g i, l = [a, b, c, d, e, f, g, i] := by
  match l, h with
  | [a, b, c, d, e, f, g, i], _ => exact ⟨a, b, c, d, e, f, g, i, rfl⟩
theorem wf_u32 {n : Int} (h : (Lit.int .u32 n).wf = true) : 0 ≤ n ∧ n < 4294967296 := by
  simp only [Lit.wf, Bool.and_eq_true, decide_eq_true_eq] at h
  have e1 : IntKind.u32.min = 0 := by decide
  have e2 : IntKind.u32.max = 4294967295 := by decide
  omega
theorem wf_u64 {n : Int} (h : (Lit.int .u64 n).wf = true) : 0 ≤ n ∧ n < 18446744073709551616 := by
  simp only [Lit.wf, Bool.and_eq_true, decide_eq_true_eq] at h
  have e1 : IntKind.u64.min = 0 := by decide
  have e2 : IntKind.u64.max = 18446744073709551615 := by decide
  omega
/-- How many elements a datum has. -/
def dlen {H : Type} : DataW H → Nat
  | .slice es _ => es.length
  | _ => 0
section
variable {w : World} {H : Type} {enc : TypeId × Value → H} {fuel : Nat} {v : Value} {x : DataW H × List MemPlace}
theorem read_list {α : Type} {t e : TypeId} (ht : Try.prog.underlying t = some (.slice e)) (hc : 0 < Try.prog.cellsOf e) (Q : List Value → α → Prop)
    (hel : ∀ n cs (x : DataW H × List MemPlace), DataW.trod enc Try.prog w 0 (fun _ => true) true n e cs = some x → ∃ a, Q cs a) (h : DataW.trod enc Try.prog w 0 (fun _ => true) true fuel t [v] = some x) :
    ∃ bs, RdS w v (Try.prog.cellsOf e) Q bs ∧ dlen x.1 = bs.length ∧ ((v = .slice none 0 0 ∧ bs = []) ∨ ∃ a c, v = .slice (some a) bs.length c) := by
  obtain ⟨u, bs, hu, hR⟩ := read_slice ht hc Q hel h
  have hvu : v = u := by simpa using hu
  subst hvu
  obtain ⟨p, cap, hv, _⟩ := hR.form
  rcases DataW.trod_slice ht h with ⟨h1, rfl⟩ | ⟨a, len, cap', elems, rest, n, _, h1, rfl, _, _, _, hl, _⟩
  · have h1 : v = .slice none 0 0 := by simpa using h1
    rw [h1] at hv
    have h9 : bs.length = 0 := (Value.slice.inj hv).2.1.symm
    exact ⟨bs, hR, by simp [dlen]; omega, .inl ⟨h1, List.eq_nil_of_length_eq_zero h9⟩⟩
  · have h1 : v = .slice (some a) len cap' := by simpa using h1
    rw [h1] at hv
    cases hv
    exact ⟨bs, hR, by simp [dlen]; omega, .inr ⟨a, _, h1⟩⟩
set_option maxRecDepth 100000 in
theorem read_events (h : DataW.trod enc Try.prog w 0 (fun _ => true) true fuel 42 [v] = some x) : ∃ L, RdE w v L ∧ Src w v L.length 8 (evs L) ∧ dlen x.1 = L.length := by
  have c8 : Try.prog.cellsOf 56 = 8 := by kernel_rfl
  obtain ⟨L, hR, hd, hv⟩ := read_list (t := 42) (e := 56) Try.underlying42 (by rw [c8]; omega) (fun cs (e : Ev) => cs = e.cells) (fun n cs x hx => by
    obtain ⟨_, _, _, _, hl, _⟩ := DataW.trod_struct Try.underlying56 hx
    rw [c8] at hl
    obtain ⟨a0, a1, a2, a3, a4, a5, a6, a7, rfl⟩ := eight_of' hl
    obtain ⟨k, o, f, n, x, y, c, s, he⟩ := read_event hx
    exact ⟨⟨k, o, f, n, x, y, c, s⟩, he⟩) h
  rw [c8] at hR
  obtain ⟨p, cap, hv2, _, _, h3⟩ := hR
  refine ⟨L, ⟨p, cap, hv2, h3.imp id ?_⟩, ?_, hd⟩
  · rintro ⟨g, o, rfl, h4⟩
    refine ⟨g, o, rfl, fun k e hk => ?_⟩
    have hkl := (List.getElem?_eq_some_iff.1 hk)
    obtain ⟨cs, _, h6, h7⟩ := h4 k hkl.1
    rw [hkl.2] at h7
    subst h7
    exact ev_of_cells h6
  · rcases hv with ⟨h1, rfl⟩ | ⟨a, c, h1⟩
    · exact .inl ⟨h1, rfl, rfl⟩
    · refine .inr ⟨a, c, h1, evs_len L, fun j u hj => ?_⟩
      have hjl := (List.getElem?_eq_some_iff.1 hj).1
      rw [evs_len] at hjl
      have hj8 : j / 8 < L.length := by omega
      rcases h3 with h3 | ⟨g, o, rfl, h4⟩
      · omega
      · rw [hv2] at h1
        cases h1
        obtain ⟨cs, _, h6, h7⟩ := h4 (j / 8) hj8
        subst h7
        have e1 : j / 8 * 8 + j % 8 = j := by omega
        have := h6 (j % 8) u (by
          rw [← evs_get L (j / 8) (j % 8) _ (List.getElem?_eq_getElem hj8) (by omega), e1]
          exact hj)
        rw [Addr.add_lit]
        rw [Nat.add_assoc, e1] at this
        exact this
theorem read_clocks (h : DataW.trod enc Try.prog w 0 (fun _ => true) true fuel 43 [v] = some x) : ∃ A, RdU w v A ∧ Src w v A.length 1 (u32s A) ∧ U32s A ∧ dlen x.1 = A.length := by
  obtain ⟨A, hR, hd, hv⟩ := read_list (t := 43) (e := 51) Try.underlying43 (by rw [cells51]; omega) (fun cs (a : Int) => cs = [.int .u32 a] ∧ 0 ≤ a ∧ a < 4294967296) (fun n cs x hx => by
    obtain ⟨a, h1, h2⟩ := read_int Try.underlying51 hx
    exact ⟨a, h1, wf_u32 h2⟩) h
  rw [cells51] at hR
  obtain ⟨p, cap, hv2, _, _, h3⟩ := hR
  refine ⟨A, ⟨p, cap, hv2, h3.imp id ?_⟩, ?_, ?_, hd⟩
  · rintro ⟨g, o, rfl, h4⟩
    refine ⟨g, o, rfl, fun k a hk => ?_⟩
    have hkl := (List.getElem?_eq_some_iff.1 hk)
    obtain ⟨cs, _, h6, h7, _⟩ := h4 k hkl.1
    rw [hkl.2] at h7
    subst h7
    have := h6 0 _ rfl
    simpa using this
  · rcases hv with ⟨h1, rfl⟩ | ⟨a, c, h1⟩
    · exact .inl ⟨h1, rfl, rfl⟩
    · refine .inr ⟨a, c, h1, by rw [u32s_len]; omega, fun j u hj => ?_⟩
      have hjl := (List.getElem?_eq_some_iff.1 hj).1
      rw [u32s_len] at hjl
      rcases h3 with h3 | ⟨g, o, rfl, h4⟩
      · omega
      · rw [hv2] at h1
        cases h1
        obtain ⟨cs, _, h6, h7, _⟩ := h4 j hjl
        subst h7
        have := h6 0 _ rfl
        rw [Addr.add_lit]
        have hu : u = .int .u32 A[j] := by simp [u32s, hjl] at hj; exact hj.symm
        rw [hu]
        simpa using this
  · intro a ha
    obtain ⟨k, hk, rfl⟩ := List.getElem_of_mem ha
    rcases h3 with h3 | ⟨g, o, rfl, h4⟩
    · omega
    · obtain ⟨cs, _, _, _, h8⟩ := h4 k hk
      exact h8
theorem read_uint {t : TypeId} {k : IntKind} (ht : Try.prog.underlying t = some (.int k)) (h : DataW.trod enc Try.prog w 0 (fun _ => true) true fuel t [v] = some x) : ∃ n : Int, v = .int k n ∧ (Lit.int k n).wf = true := by
  obtain ⟨n, h1, h2⟩ := read_int ht h
  exact ⟨n, by simpa using h1, h2⟩
end
/-- What a start reads as. -/
structure Start (w : World) (x : Value) (fr : Bool) (win tmo most ac : Int) (L : List Ev) (A : List Int) : Prop where
  ex : ∃ (p1 p2 : Option Addr) (c1 c2 : Nat), x = .agg #[.bool fr, .int .i64 win, .int .i64 tmo, .int .i64 most, .int .u64 ac, .slice p1 L.length c1, .slice p2 A.length c2] ∧
    RdE w (.slice p1 L.length c1) L ∧ Src w (.slice p1 L.length c1) L.length 8 (evs L) ∧ RdU w (.slice p2 A.length c2) A ∧ Src w (.slice p2 A.length c2) A.length 1 (u32s A)
  u : U32s A
  wac : 0 ≤ ac ∧ ac < 18446744073709551616
set_option maxRecDepth 100000 in
theorem read_start {w : World} {H : Type} {enc : TypeId × Value → H} {fuel : Nat} {cs : List Value} {x : DataW H × List MemPlace} (h : DataW.trod enc Try.prog w 0 (fun _ => true) true fuel 45 cs = some x) :
    ∃ (fr : Bool) (win tmo most ac : Int) (L : List Ev) (A : List Int) (d5 d6 : DataW H) (d0 d1 d2 d3 d4 : DataW H), Start w (.agg cs.toArray) fr win tmo most ac L A ∧ x.1 = .agg [d0, d1, d2, d3, d4, d5, d6] ∧ dlen d5 = L.length ∧ dlen d6 = A.length := by
  obtain ⟨xs, m, _, hx, hl, hlen, hf⟩ := DataW.trod_struct Try.underlying45 h
  rw [cells45] at hl
  obtain ⟨b0, b1, b2, b3, b4, b5, b6, rfl⟩ := seven_of hl
  have hlen : xs.length = 7 := hlen
  match xs, hlen with
  | [y0, y1, y2, y3, y4, y5, y6], _ =>
    obtain ⟨fr, h0⟩ := read_bool (cs := [b0]) Try.underlying4 (hf 0 _ rfl)
    obtain ⟨n1, rfl⟩ := read_one (v := b1) Try.underlying3 (hf 1 _ rfl)
    obtain ⟨n2, rfl⟩ := read_one (v := b2) Try.underlying3 (hf 2 _ rfl)
    obtain ⟨n3, rfl⟩ := read_one (v := b3) Try.underlying3 (hf 3 _ rfl)
    obtain ⟨n4, rfl, w4⟩ := read_uint (v := b4) Try.underlying41 (hf 4 _ rfl)
    obtain ⟨L, e1, e2, e3⟩ := read_events (v := b5) (hf 5 _ rfl)
    obtain ⟨A, u1, u2, u3, u4⟩ := read_clocks (v := b6) (hf 6 _ rfl)
    have h0 : b0 = .bool fr := by simpa using h0
    subst h0
    obtain ⟨p1, c1, rfl⟩ := e2.form
    obtain ⟨p2, c2, rfl⟩ := u2.form
    exact ⟨fr, n1, n2, n3, n4, L, A, _, _, _, _, _, _, _, ⟨⟨p1, p2, c1, c2, rfl, e1, e2, u1, u2⟩, u3, wf_u64 w4⟩, by rw [hx]; rfl, e3, u4⟩
set_option maxRecDepth 100000 in
theorem read_steps {w : World} {H : Type} {enc : TypeId × Value → H} {fuel : Nat} {cs : List Value} {x : DataW H × List MemPlace} (h : DataW.trod enc Try.prog w 0 (fun _ => true) true fuel 46 cs = some x) :
    ∃ v l, cs = [v] ∧ RdS w v 11 (fun cs (s : Stp) => cs = s.cells ∧ 0 ≤ s.nw ∧ s.nw < 4294967296) l := by
  have := read_slice (t := 46) (e := 58) Try.underlying46 (by rw [cells58]; omega) (fun cs (s : Stp) => cs = s.cells ∧ 0 ≤ s.nw ∧ s.nw < 4294967296) (fun n cs x hx => by
    have hx' := hx
    obtain ⟨kd, k, o, f, n, x, y, c, s, nw, nm, rfl⟩ := read_sstep hx
    refine ⟨⟨kd, ⟨k, o, f, n, x, y, c, s⟩, nw, nm⟩, rfl, ?_⟩
    obtain ⟨xs, m, _, _, hl, hlen, hf⟩ := DataW.trod_struct Try.underlying58 hx'
    have hlen : xs.length = 4 := hlen
    match xs, hlen with
    | [y0, y1, y2, y3], _ =>
      obtain ⟨n1, h1, w1⟩ := read_uint (v := .int .u32 nw) Try.underlying51 (hf 2 _ rfl)
      cases h1
      exact wf_u32 w1) h
  rwa [cells58] at this

theorem sized_at {H : Type} {ts : List TypeId} {ds : List (DataW H)} {parts : List (DataW H)} (hsz : (DataW.weightsEach Try.prog ts ds).all (· ≤ reachBytes) = true) (ht : ts[0]? = some 45) (hd : ds[0]? = some (.agg parts)) {j : Nat} {t e : TypeId} {d : DataW H} (hj : ([4, 3, 3, 3, 41, 42, 43] : List TypeId)[j]? = some t) (hp : parts[j]? = some d) (hu : Try.prog.underlying t = some (.slice e)) : dlen d * Try.prog.bytesOf e ≤ 140737488351232 := by
  cases d with
  | slice es sp =>
    have h1 : (es.length + sp.length) * Try.prog.bytesOf e ∈ (DataW.slice es sp).weights Try.prog t := by simp [DataW.weights, hu]
    have hfs : ∀ parts : List (DataW H), (DataW.agg parts).weights Try.prog 45 = DataW.weightsEach Try.prog [4, 3, 3, 3, 41, 42, 43] parts := fun parts => by
      rw [DataW.weights, Try.underlying45]
      rfl
    have h2 := DataW.weights_mem_each hj hp _ h1
    rw [← hfs] at h2
    have h3 := List.all_eq_true.1 hsz _ (DataW.weights_mem_each ht hd _ h2)
    have h4 : (es.length + sp.length) * Try.prog.bytesOf e ≤ 140737488351232 := by
      have h5 : reachBytes = 140737488351232 := rfl
      rw [← h5]
      simpa using h3
    refine Nat.le_trans (Nat.mul_le_mul_right _ ?_) h4
    simp [dlen]
  | _ => simp [dlen]

namespace sendPlays
theorem walk (w : World) (x : Value) (fr : Bool) (win tmo most ac : Int) (L : List Ev) (A : List Int) (lv : Value) (l : List Stp) (hS : Start w x fr win tmo most ac L A) (hL : L.length * 40 ≤ 140737488351232) (hA : A.length * 4 ≤ 140737488351232) (hP : RdS w lv 11 (fun cs (s : Stp) => cs = s.cells ∧ 0 ≤ s.nw ∧ s.nw < 4294967296) l) :
    Calls Try.prog 8 #[x, lv] w fun e w' => e = .returned (.bool true) ∧ Fr [] w w' := by
  obtain ⟨⟨p1, p2, c1, c2, rfl, e1, e2, u1, u2⟩, hu, hac⟩ := hS
  obtain ⟨lp, lc, hlv, _⟩ := RdS.form hP
  by_cases hn : 4096 < l.length
  · rw [hlv]; exact walk_long w fr win tmo most ac p1 p2 _ c1 _ c2 lp _ lc hn
  have fB := (Fr.refl [] w).alloc (.cells #[.bool fr, .int .i64 win, .int .i64 tmo, .int .i64 most, .int .u64 ac, .slice p1 L.length c1, .slice p2 A.length c2] 45)
  by_cases h : win < 1 ∨ 32 < win ∨ tmo < 1 ∨ 1000 < tmo ∨ most < 1 ∨ 256 < most
  · rw [hlv]
    refine walk_no w fr win tmo most ac p1 p2 _ c1 _ c2 lp _ lc (by omega) ?_
    cases fr with
    | false => exact made_new_no _ win tmo most ac p1 p2 _ c1 _ c2 h
    | true => exact made_no2 _ win tmo most ac p1 p2 _ _ c1 c2 L A rfl rfl (by omega) (by omega) (e1.fr0 fB) (u1.fr0 fB) (e2.fr0 fB) (u2.fr0 fB) h
  · obtain ⟨a, rfl⟩ := Int.eq_ofNat_of_zero_le (show 0 ≤ win by omega)
    obtain ⟨b, rfl⟩ := Int.eq_ofNat_of_zero_le (show 0 ≤ tmo by omega)
    obtain ⟨c, rfl⟩ := Int.eq_ofNat_of_zero_le (show 0 ≤ most by omega)
    obtain ⟨k, rfl⟩ := Int.eq_ofNat_of_zero_le hac.1
    cases fr with
    | false => exact walk_ok w false a b c 0 _ p1 p2 _ c1 _ c2 [] [] lv l hP (by omega) (by intro a ha; simp at ha) (made_new_ok _ a b c _ p1 p2 _ c1 _ c2 (by omega) (by omega) (by omega))
    | true =>
      by_cases h2 : c < L.length ∨ L.length < A.length ∨ a < A.length ∨ 18446744073709551616 ≤ k + L.length
      · rw [hlv]
        exact walk_no w true a b c k p1 p2 _ c1 _ c2 lp _ lc (by omega) (made_no3 _ a b c k p1 p2 _ _ c1 c2 L A rfl rfl (by omega) (by omega) (e1.fr0 fB) (u1.fr0 fB) (e2.fr0 fB) (u2.fr0 fB) (by omega) (by omega) (by omega) (by omega) h2)
      · exact walk_ok w true a b c k _ p1 p2 _ c1 _ c2 L A lv l hP (by omega) hu (made_ok _ a b c k p1 p2 _ _ c1 c2 L A rfl rfl (by omega) (by omega) (e1.fr0 fB) (u1.fr0 fB) (e2.fr0 fB) (u2.fr0 fB) (by omega) (by omega) (by omega) (by omega) (by omega) (by omega) (by omega))
set_option maxRecDepth 100000 in
theorem lifted (os : Os) (started : os.Started) (H : Type) (enc : TypeId × Value → H) :
    ReturnsInHanded {} Try.checked os 8 .any (Rows.sendPlaysSpec.pre6 enc Try.prog Try.f8 Rows.sendPlaysRow.domain false) (Rows.sendPlaysSpec.post enc Try.prog Try.f8 false true false false) := by
  refine returnsInHanded_of_change_sized (C := Try.checked) own started (by kernel_rfl) Try.func8
    (ChangeSpec.witness6 (enc := enc) (C := Try.checked) false ⟨#[], #[.agg #[.bool false, .int .i64 0, .int .i64 0, .int .i64 0, .int .u64 0, .slice none 0 0, .slice none 0 0], .slice none 0 0], []⟩ 12 (by kernel_rfl) (by kernel_rfl) (by kernel_rfl) (by kernel_rfl)) ?_
  intro W base args ds gs before hval0 hW hcnd hsz _
  have hval : ∀ (j : Nat) t v, Try.f8.params[j]? = some t → args[j]? = some v → Value.okWide Try.prog W .any base t v := hval0
  have hW' := hW
  obtain ⟨p, q, hA, hV, rfl, hfz, hnd⟩ := hW
  rw [Try.params8] at hA hval
  obtain ⟨v0, v1, d0, d1, p0, p1, hargs, rfl, rfl, h0, h1⟩ := trodAll_two hA
  obtain ⟨rfl, rfl⟩ := trodVars_none hV
  have : args = #[v0, v1] := by simpa using hargs
  subst this
  obtain ⟨fu0, l0, rfl, e0⟩ := open_agg Try.underlying45 (hval 0 45 v0 rfl rfl) h0
  obtain ⟨fr, win, tmo, most, ac, EL, AL, q5, q6, q0, q1, q2, q3, q4, hS, hx, hd5, hd6⟩ := read_start e0
  obtain ⟨a1, n1, m1, rfl⟩ := okWide_slice Try.underlying46 (hval 1 46 v1 rfl rfl)
  obtain ⟨fuel, hf⟩ := h1
  obtain ⟨u, L, hu, hP⟩ := read_steps hf
  have hvu : Value.slice a1 n1 m1 = u := by simpa [Value.cells] using hu
  subst hvu
  have hx' : d0 = .agg [q0, q1, q2, q3, q4, q5, q6] := hx
  have b5 := sized_at (j := 5) hsz rfl (by rw [hx']; rfl) rfl rfl Try.underlying42
  have b6 := sized_at (j := 6) hsz rfl (by rw [hx']; rfl) rfl rfl Try.underlying43
  rw [hd5, show Try.prog.bytesOf 56 = 40 by kernel_rfl] at b5
  rw [hd6, show Try.prog.bytesOf 51 = 4 by kernel_rfl] at b6
  refine (walk W _ fr win tmo most ac EL AL _ L hS b5 b6 hP).mono fun e W' ⟨he, hg⟩ => ?_
  exact ⟨_, he, law_post (tb := 4) laidOut (by
    rw [Try.params8]; intro t ht; simp at ht
    rcases ht with rfl | rfl
    · exact ⟨by kernel_rfl, of_decide_eq_true (by kernel_rfl)⟩
    · exact ⟨by kernel_rfl, of_decide_eq_true (by kernel_rfl)⟩) rfl Try.underlying4 rfl hW' rfl hg⟩
theorem over : Rows.sendPlaysRow.holds Try.pinned (OpenSpec.ofChange Rows.sendPlaysSpec) :=
  OpenClaim.holds_of_wide 8 Try.f8 rfl rfl rfl rfl rfl rfl rfl ⟨rfl, rfl, rfl, rfl, rfl⟩ rfl rfl rfl rfl rfl (by kernel_rfl) Try.func8 (by kernel_rfl)
    (of_decide_eq_true (by kernel_rfl)) (by unfold Func.isWrapper; first | (rw [if_pos (by decide +kernel)]; kernel_rfl) | (rw [if_neg (by decide +kernel)]; exact ⟨rfl, rfl⟩))
    (fun os started H enc _ => lifted os started H enc)
/-- The statement SendPlays. -/
theorem proved : Rows.SendPlaysSaid := over
#print axioms proved

end sendPlays

end Go.Proofs.Ytehdhdocalbfpaa
