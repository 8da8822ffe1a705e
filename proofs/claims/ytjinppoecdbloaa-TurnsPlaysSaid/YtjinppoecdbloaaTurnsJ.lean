/-
  The reference's Next, Waited and From, each by a contract.
-/
import Derived.Test.YtjinppoecdbloaaTurnsI
namespace Go.Proofs.Ytjinppoecdbloaa
open Go.RowKit Go.Shelf
set_option linter.unusedVariables false

theorem asks_get {n s m k : Nat} (h : k < m) : (asks n s m).getD k 0 = (pos n s k : Nat) := by simp [asks, List.getD_eq_getElem?_getD, h]
theorem asks_take (n s : Nat) {k m : Nat} (h : k ≤ m) : (asks n s m).take k = asks n s k := by simp [asks, ← List.map_take, List.take_range, Nat.min_eq_left h]

/-- What the reference's Next answers. -/
def RNext (w : World) (br n s : Nat) (had : List Int) (v : Value) (bs : List Bool) (e : Ending) (w' : World) : Prop :=
  (∃ j v' lv, j < n ∧ (∀ k, k < j → isReady bs (pos n s k) = false) ∧ isReady bs (pos n s j) = true ∧ e = .returned (.tuple #[.int .i64 (pos n s j : Nat), .bool true, lv]) ∧
      RefAt w' br n (had ++ [(pos n s j : Int)]) v' ∧ (v'.ownBlock = v.ownBlock ∨ ∃ g, v'.ownBlock = some g ∧ w.heap.size ≤ g) ∧ RdInts w' lv (asks n s (j + 1)) ∧ Fr (br :: v.ownBlock.toList) w w') ∨
   (∃ lv, (∀ k, k < n → isReady bs (pos n s k) = false) ∧ e = .returned (.tuple #[.int .i64 (-1), .bool false, lv]) ∧ RdInts w' lv (asks n s n) ∧ Fr [] w w')

set_option maxRecDepth 100000 in
set_option maxHeartbeats 2000000 in
theorem rnext (w : World) (br n s : Nat) (had : List Int) (v : Value) (rv : Value) (bs : List Bool) (h : RefAt w br n had v) (hl : had.length ≤ 100000) (hn0 : 0 < n) (hn : n ≤ 16) (hs : (s : Int) = lastOf had + 1) (hs2 : s ≤ n)
    (hrv : Rd w rv (bools bs)) (hb : bs.length ≤ 9223372036854775807) :
    Calls Try.prog 26 #[.pointer (some ⟨br, 0, none⟩), rv] w (RNext w br n s had v bs) := by
  have h27 := rorder w br n s had v h (by omega) hn0 hn hs hs2
  have H27 := Lib.hid h27
  have HR := Lib.hid (And.intro h hrv)
  obtain ⟨rp, rcap, rfl, hrc, hr0⟩ := hrv
  rw [bools_len] at hrc hr0
  have HR0 := Lib.hid hr0
  have HL := Lib.hid hl
  clear h27 h hs hr0
  simp only [bools_len]
  obtain ⟨i0, hi, hz0, hz1, hz2⟩ := info_parts info3
  go_enter Try.func26, Try.ntmps26
  go_wp2_with (go_at_call 27; refine H27.out.mono ?_; rintro e w1 ⟨lv, rfl, hown, hnew, hfr⟩)
  rw [asks_len] at hown
  obtain ⟨p, cap, rfl, hc, hp1, hp2⟩ := own_form hown
  obtain ⟨a, rfl⟩ : ∃ a, p = some a := by cases p with
    | none => exact absurd (hp1 rfl) (by omega)
    | some a => exact ⟨a, rfl⟩
  obtain ⟨g, rfl⟩ := hp2 a rfl
  clear hp1 hp2
  go_loopw [8] (fun i wr => ∃ k : Nat, i = .int .i64 k ∧ k ≤ n ∧ (∀ m, m < k → isReady bs (pos n s m) = false) ∧ w1 = wr) (fun i _ => n - (intOf i).toNat)
  case atStart => exact ⟨0, rfl, Nat.zero_le _, fun m hm => absurd hm (Nat.not_lt_zero _), rfl⟩
  case round =>
    obtain ⟨k, rfl, hk, hno, rfl⟩ := hrel
    have HF := Lib.hid (And.intro hno (And.intro hnew (And.intro hfr hown)))
    by_cases hlt : k < n
    · have c1 := own_at hown (j := k) (by rw [asks_len]; exact hlt)
      rw [asks_get hlt] at c1
      have hpl := pos_lt (n := n) s k hn0
      have hrs := hno
      have hRD := HR.out.2.grow hfr
      have hT := HR.out.1.fr hfr (by simp) (by simp)
      obtain ⟨q, hq⟩ : ∃ q, pos n s k = q := ⟨_, rfl⟩
      rw [hq] at c1 hpl
      have HQ := Lib.hid hq
      clear hno hrs hnew hfr hq
      have cb := hT.t.at 1 (v := v) rfl
      by_cases hqb : q < bs.length
      · obtain ⟨g2, o2, rfl, hcell⟩ := HR0.out.resolve_left (by omega)
        have c2 : w1.cell? ⟨g2, o2 + q, none⟩ = some (.bool (isReady bs q)) := by
          obtain ⟨p', c', he, _, h0⟩ := hRD
          obtain ⟨g3, o3, rfl, h0'⟩ := h0.resolve_left (by rw [bools_len]; omega)
          cases he
          exact h0' q _ (bools_get bs hqb)
        have hgl := World.block_lt_of_cell? w1 _ c2
        clear hcell hRD
        by_cases hrd : isReady bs q = true
        · rw [hrd] at c2
          have HRD := Lib.hid hrd
          have HT := Lib.hid hT
          have hTs := hT.s
          obtain ⟨vp, vcap, hve, _⟩ := own_form hTs
          have hbr := hT.t.lt
          have hgl2 : g < w1.heap.size := own_lt hown rfl
          have hll : had.length ≤ 100000 := HL.out
          have hgv : ∀ x, v.ownBlock = some x → x < w.heap.size := fun x hx => own_lt HR.out.1.s hx
          have hgn : w.heap.size ≤ g := HF.out.2.1 g rfl
          have hfr' := HF.out.2.2.1
          have hA : ∀ (w2 : World) (g1 cp1 : Nat) (w0 : World), Fr [] w1 w0 → w2.ownsRow 0 3 1 (.slice (some ⟨g1, 0, none⟩) (had.length + 1) cp1) (had.length + 1) (ints had ++ [.int .i64 (q : Nat)]) → w0.grownBy w2 v.ownBlock → (v.ownBlock = some g1 ∨ g1 = w0.heap.size) →
              (w2.cell? ⟨br, 1, none⟩ = some v ∧ w2.frozen? ⟨br, 1, none⟩ = false ∧ (w2.setCell ⟨br, 1, none⟩ (.slice (some ⟨g1, 0, none⟩) (had.length + 1) cp1)).cell? ⟨g, k, none⟩ = some (.int .i64 (q : Nat))) ∧
              RefAt (w2.setCell ⟨br, 1, none⟩ (.slice (some ⟨g1, 0, none⟩) (had.length + 1) cp1)) br n (had ++ [(q : Int)]) (.slice (some ⟨g1, 0, none⟩) (had.length + 1) cp1) ∧
              (some g1 = v.ownBlock ∨ w.heap.size ≤ g1) ∧ RdInts (w2.setCell ⟨br, 1, none⟩ (.slice (some ⟨g1, 0, none⟩) (had.length + 1) cp1)) (.slice (some ⟨g, 0, none⟩) (k + 1) cap) (asks n s (k + 1)) ∧ Fr (br :: v.ownBlock.toList) w (w2.setCell ⟨br, 1, none⟩ (.slice (some ⟨g1, 0, none⟩) (had.length + 1) cp1)) := by
            intro w2 g1 cp1 w0 f0 o2 gr pl
            have b0 := f0.blk hT.t (by simp)
            have hnb : br ∉ v.ownBlock.toList := own_notin hTs hT.t (by decide)
            have f2 : Fr v.ownBlock.toList w0 w2 := (Fr.refl _ w0).grown gr (fun x hx => .inl (by simp [hx]))
            have b2 := f2.blk b0 hnb
            have hgnv : g ∉ v.ownBlock.toList := by intro hm; have := hgv g (by simpa using hm); omega
            have hgbr : g ≠ br := by have := HR.out.1.t.lt; omega
            have fall : Fr (br :: v.ownBlock.toList) w1 (w2.setCell ⟨br, 1, none⟩ (.slice (some ⟨g1, 0, none⟩) (had.length + 1) cp1)) :=
              ((f0.trans (S := []) (Fr.refl [] w0) (by simp)).mono (T := br :: v.ownBlock.toList) (by simp) |>.trans f2 (fun x hx => .inl (List.mem_cons_of_mem _ hx))).setCell _ _ (.inl (by simp))
            have hcl : ∀ x, (w2.setCell ⟨br, 1, none⟩ (.slice (some ⟨g1, 0, none⟩) (had.length + 1) cp1)).cell? ⟨g, x, none⟩ = w1.cell? ⟨g, x, none⟩ := fun x => fall.cell hgl2 (by
              intro hm
              rcases List.mem_cons.1 hm with h | h
              · exact hgbr h
              · exact hgnv h)
            refine ⟨⟨b2.at 1 rfl, b2.free 1, by rw [hcl]; exact c1⟩, ⟨b2.set 1 _, ?_⟩, ?_, ?_, ?_⟩
            · have := own_fr o2 ((Fr.refl [br] w2).setCell ⟨br, 1, none⟩ (.slice (some ⟨g1, 0, none⟩) (had.length + 1) cp1) (.inl (by simp))) (fun x hx hm => by
                simp at hm; subst hm
                exact own_ne o2 hx b2 (by decide) rfl)
              simpa [ints] using this
            · rcases pl with h | h
              · exact .inl h.symm
              · exact .inr (by have := f0.size; have := hfr'.size; omega)
            · refine ⟨some ⟨g, 0, none⟩, cap, by rw [asks_len], by rw [asks_len]; omega, .inr ⟨g, 0, rfl, fun x hx => ?_⟩⟩
              rw [asks_len] at hx
              rw [Nat.zero_add, hcl, own_at hown (j := x) (by rw [asks_len]; omega), asks_get (by omega), asks_get hx]
            · exact (hfr'.mono (T := br :: v.ownBlock.toList) (by simp)).trans fall (fun x hx => .inl hx)
          have HA := Lib.hid hA
          have HTS := Lib.hid hTs
          have HVE := Lib.hid hve
          clear hrd hT hTs hve hown hgv hgn hA hfr'
          go_wp2
          go_region_law (first | (refine step_append_lies _ rfl (.tmp 37) (.tmp 42) 25 rfl 0 3 i0 (.int .i64 0) 1 8 Try.underlying25 hi hz0 hz1 hz2 rfl (by decide) v had.length (ints had) (by simp [Act.eval]) (by exact HTS.out.alloc _) ⟨w1.heap.size, 0, none⟩ 1 1 [.int .i64 (q : Nat)] (by simp [Act.eval]) rfl (by exact new_one w1 _ _ _ rfl) (by simp [Value.oneCell']) (by decide) (by unfold maxLen; omega) (by omega) (Nat.zero_le _) _ rfl ?_; intro g1 cp1 w2 o2 gr2 pl2 lt2; obtain ⟨⟨x1, x2, x3⟩, x4⟩ := HA.out w2 g1 cp1 _ (by exact ((Fr.refl [] w1).alloc _).drew) o2 gr2 pl2; have X4 := Lib.hid x4; clear x4 o2 gr2 pl2))
          all_goals
            go_wp2
            go_quiet (fail)
            go_wp2
            go_ret3
            obtain ⟨x4, x5, x6, x7⟩ := X4.out
            left
            refine ⟨k, .slice (some ⟨g1, 0, none⟩) (had.length + 1) cp1, .slice (some ⟨g, 0, none⟩) (k + 1) cap, ?_⟩
            rw [HQ.out]
            refine ⟨hlt, HF.out.1, HRD.out, rfl, ⟨x4.t.drewN _, x4.s⟩, ?_, x6.kept (fun _ _ _ _ _ => rfl), x7.drewN _⟩
            rcases x5 with h | h
            · exact .inl h
            · exact .inr ⟨_, rfl, h⟩
        · have hrd' : isReady bs q = false := by simpa using hrd
          rw [hrd'] at c2
          have HRD := Lib.hid hrd'
          clear hrd hrd' hT hown
          go_wp2
          go_roundw
          case rel =>
            refine ⟨k + 1, by go_num, by omega, fun m hm => ?_, trivial⟩
            rcases Nat.lt_succ_iff_lt_or_eq.1 hm with hm | rfl
            · exact HF.out.1 m hm
            · rw [HQ.out]; exact HRD.out
          case measure => simp [intOf]; omega
      · have hrd : isReady bs q = false := by simp [isReady, List.getD_eq_getElem?_getD, Nat.le_of_not_lt hqb]
        have HRD := Lib.hid hrd
        clear hrd hT hown hRD
        go_wp2
        go_roundw
        case rel =>
          refine ⟨k + 1, by go_num, by omega, fun m hm => ?_, trivial⟩
          rcases Nat.lt_succ_iff_lt_or_eq.1 hm with hm | rfl
          · exact HF.out.1 m hm
          · rw [HQ.out]; exact HRD.out
        case measure => simp [intOf]; omega
    · obtain rfl : k = n := by omega
      clear hno hnew hfr hown
      go_wp2
      go_ret3
      obtain ⟨hno, hnew, hfr, hown⟩ := HF.out
      exact .inr ⟨_, hno, rfl, RdInts.of_own hown, hfr⟩

/-- So many turns ago i had its last. -/
def IsW (had : List Int) (i : Int) (c : Nat) : Prop := c ≤ had.length ∧ (∀ j, j < c → had.getD (had.length - 1 - j) 0 ≠ i) ∧ (c < had.length → had.getD (had.length - 1 - c) 0 = i)
theorem IsW.unique {had : List Int} {i : Int} {c d : Nat} (h : IsW had i c) (k : IsW had i d) : c = d := by
  rcases Nat.lt_trichotomy c d with hl | hl | hl
  · exact absurd (h.2.2 (by have := k.1; omega)) (k.2.1 c hl)
  · exact hl
  · exact absurd (k.2.2 (by have := h.1; omega)) (h.2.1 d hl)
theorem IsW.none (i : Int) : IsW [] i 0 := ⟨Nat.le_refl _, fun j hj => absurd hj (Nat.not_lt_zero _), fun h => absurd h (Nat.not_lt_zero _)⟩
theorem getD_snoc_last (had : List Int) (p : Int) : (had ++ [p]).getD had.length 0 = p := by simp [List.getD_eq_getElem?_getD]
theorem getD_snoc_lt (had : List Int) (p : Int) {k : Nat} (h : k < had.length) : (had ++ [p]).getD k 0 = had.getD k 0 := by simp [List.getD_eq_getElem?_getD, List.getElem?_append, h]
theorem IsW.same (had : List Int) (p : Int) : IsW (had ++ [p]) p 0 := by
  refine ⟨Nat.zero_le _, fun j hj => absurd hj (Nat.not_lt_zero _), fun _ => ?_⟩
  rw [show (had ++ [p]).length - 1 - 0 = had.length by simp]
  exact getD_snoc_last had p
theorem IsW.more {had : List Int} {i p : Int} {c : Nat} (h : IsW had i c) (hp : p ≠ i) : IsW (had ++ [p]) i (c + 1) := by
  obtain ⟨h1, h2, h3⟩ := h
  refine ⟨by simp; omega, fun j hj => ?_, fun hc => ?_⟩
  · cases j with
    | zero => rw [show (had ++ [p]).length - 1 - 0 = had.length by simp, getD_snoc_last]; exact hp
    | succ j =>
      rw [show (had ++ [p]).length - 1 - (j + 1) = had.length - 1 - j by simp; omega, getD_snoc_lt _ _ (by omega)]
      exact h2 j (by omega)
  · simp at hc
    rw [show (had ++ [p]).length - 1 - (c + 1) = had.length - 1 - c by simp; omega, getD_snoc_lt _ _ (by omega)]
    exact h3 hc
/-- The waited numbers are just these. -/
def WsOf (had ws : List Int) (n : Nat) : Prop := ws.length = n ∧ ∀ i, i < n → ∃ c : Nat, ws.getD i 0 = c ∧ IsW had i c
theorem WsOf.none (n : Nat) : WsOf [] (List.replicate n 0) n := ⟨by simp, fun i hi => ⟨0, by simp [List.getD_eq_getElem?_getD, hi], IsW.none i⟩⟩
theorem WsOf.given {had ws : List Int} {n p : Nat} (h : WsOf had ws n) (hp : p < n) : WsOf (had ++ [(p : Int)]) (given ws p) n := by
  refine ⟨by simp [Go.Proofs.Ytjinppoecdbloaa.given, h.1], fun i hi => ?_⟩
  obtain ⟨c, h1, h2⟩ := h.2 i hi
  by_cases hip : i = p
  · subst hip
    refine ⟨0, ?_, IsW.same _ _⟩
    simp [Go.Proofs.Ytjinppoecdbloaa.given, List.getD_eq_getElem?_getD, h.1, hi]
  · refine ⟨c + 1, ?_, h2.more (by omega)⟩
    have hi' : i < ws.length := by rw [h.1]; exact hi
    simp only [Go.Proofs.Ytjinppoecdbloaa.given, List.getD_eq_getElem?_getD] at h1 ⊢
    rw [List.getElem?_set_ne (by omega)]
    simp [hi'] at h1 ⊢
    omega
theorem WsOf.bd {had ws : List Int} {n : Nat} (h : WsOf had ws n) : ∀ j, j < n → 0 ≤ ws.getD j 0 ∧ ws.getD j 0 ≤ had.length := by
  intro j hj
  obtain ⟨c, h1, h2⟩ := h.2 j hj
  have := h2.1
  omega

set_option maxRecDepth 100000 in
set_option maxHeartbeats 2000000 in
theorem rwaited (w : World) (br n : Nat) (had ws : List Int) (v : Value) (h : RefAt w br n had v) (hl : had.length ≤ 100000) (hn : n ≤ 16) (hw : WsOf had ws n) :
    Calls Try.prog 29 #[.pointer (some ⟨br, 0, none⟩)] w fun e w' => ∃ v', e = .returned v' ∧ Fresh w ws v' w' := by
  have HR := Lib.hid h
  have HW := Lib.hid hw
  have hs := h.s
  obtain ⟨vp, vcap, hve, hvc, hv1, hv2⟩ := own_form hs
  have hs' := hs
  rw [hve] at hs
  have HVS := Lib.hid (And.intro hs (And.intro hv1 hv2))
  have HVE := Lib.hid hve
  obtain ⟨N, hN⟩ : ∃ N, had.length = N := ⟨_, rfl⟩
  rw [hN] at hl hvc
  have HN := Lib.hid hN
  clear h hw hs hs' hve hv1 hv2 hN
  go_enter Try.func29, Try.ntmps29
  go_wp2_with fail
  go_loopw [4, 3] (fun i v wr => ∃ k : Nat, i = .int .i64 k ∧ k ≤ n ∧ Fresh w (ws.take k) v wr) (fun i _ _ => n - (intOf i).toNat)
  case atStart => exact ⟨0, rfl, Nat.zero_le _, World.ownsRow_nil _ _ _ _, by simp [Value.ownBlock], Fr.refl _ _⟩
  case round =>
    obtain ⟨k, rfl, hk, hown, hnew, hfr⟩ := hrel
    obtain ⟨wo, rfl⟩ : ∃ wo : World, wo = wr := ⟨_, rfl⟩
    have hb := hfr.blk HR.out.t (by simp)
    have c0 := hb.at 0 (v := .int .i64 n) rfl
    have c1 := hb.at 1 (v := v) rfl
    rw [HVE.out, HN.out] at c1
    have hlen : (ws.take k).length = k := by rw [List.length_take, HW.out.1]; omega
    rw [hlen] at hown
    obtain ⟨p, cap, rfl, hc, hp1, hp2⟩ := own_form hown
    have HF := Lib.hid (And.intro hown (And.intro hnew (And.intro hfr hlen)))
    clear hp1 hp2 hnew hfr hlen
    by_cases hlt : k < n
    · clear hown
      obtain ⟨cw, hcw, hisw⟩ := HW.out.2 k hlt
      have HC := Lib.hid (And.intro hcw hisw)
      clear hcw hisw
      go_wp2_with fail
      go_loop [5, 6] (fun cn kk => ∃ c m : Nat, cn = .int .i64 c ∧ kk = .int .i64 ((m : Int) - 1) ∧ c + m = N ∧ ∀ j, j < c → had.getD (N - 1 - j) 0 ≠ (k : Int)) (fun _ kk => (intOf kk + 1).toNat)
      case atStart => exact ⟨0, N, rfl, rfl, by omega, fun j hj => absurd hj (Nat.not_lt_zero _)⟩
      case round =>
        obtain ⟨c, m, rfl, rfl, hcm, hne⟩ := hrel
        have HCM := Lib.hid (And.intro hcm hne)
        have hcN : c ≤ N := by omega
        have fin : (c < N → had.getD (N - 1 - c) 0 = (k : Int)) → c = cw := fun hx => by
          have hi : IsW had k c := ⟨by rw [HN.out]; exact hcN, by rw [HN.out]; exact HCM.out.2, by rw [HN.out]; exact hx⟩
          exact hi.unique HC.out.2
        have FIN := Lib.hid fin
        have hApp : ∀ v1 w1, Appended (wo.alloc (.cells #[.int .i64 c] 3)) 3 1 (.slice p k cap) (k + 1) (ints (ws.take k) ++ [.int .i64 c]) v1 w1 → c = cw → Fresh w (ws.take (k + 1)) v1 w1 := by
          intro v1 w1 happ hcc
          obtain ⟨hown, hnew, hfr, hlen⟩ := HF.out
          have hkl : k < ws.length := by rw [HW.out.1]; exact hlt
          have htk : ws.take (k + 1) = ws.take k ++ [(c : Int)] := by
            rw [List.take_succ_eq_append_getElem hkl]
            congr 2
            have := HC.out.1
            simp [List.getD_eq_getElem?_getD, hkl] at this
            omega
          rw [htk]
          refine ⟨?_, ?_, ?_⟩
          · have := happ.own
            simpa [ints, hlen] using this
          · intro g hg
            rcases happ.place with h | h
            · exact hnew g (by rw [← h]; exact hg)
            · rw [h] at hg; cases hg; have := hfr.size; simp; omega
          · exact (hfr.alloc _).trans happ.fr (fun x hx => .inr (hnew x (by simpa using hx)))
        have HA := Lib.hid hApp
        have HO := Lib.hid HF.out.1
        clear hcm hne fin hApp
        cases m with
        | zero =>
          have hcN2 : c = N := by have := HCM.out.1; omega
          have hcc := FIN.out (fun h => by omega)
          have HCC := Lib.hid hcc
          clear hcc hcN2 hcN
          go_wp2_with (at_builtin; go_must (refine wpList_app _ rfl _ _ 25 rfl 3 (.int .i64 0) 1 8 Try.underlying25 info3 rfl (by decide) (.slice p k cap) k (ints (ws.take k)) rfl (HO.out.alloc _) ⟨wo.heap.size, 0, none⟩ 1 1 [.int .i64 c] rfl rfl (new_one _ _ _ _ rfl) (by simp [Value.oneCell']) (by unfold maxLen; omega) (by omega) ?_); intro v1 w1 happ; have hres := HA.out _ _ happ HCC.out; obtain ⟨g1, cp1, rfl⟩ := own_succ happ.own)
          exact ⟨⟨k + 1, by go_num, by omega, hres⟩, by simp [intOf]; omega⟩
        | succ m =>
          have hml : N - 1 - c = m := by have := HCM.out.1; omega
          rw [hml] at FIN
          obtain ⟨vs1, vs2, vs3⟩ := HVS.out
          obtain ⟨a, rfl⟩ : ∃ a, vp = some a := by
            cases vp with
            | none => have := vs2 rfl; have := HN.out; have := HCM.out.1; omega
            | some a => exact ⟨a, rfl⟩
          obtain ⟨gv, rfl⟩ := vs3 a rfl
          have hmN : m < had.length := by rw [HN.out]; have := HCM.out.1; omega
          have cm := (HF.out.2.2.1.cell (a := ⟨gv, m, none⟩) (own_lt vs1 rfl) (by simp)).trans (own_at vs1 hmN)
          have hmN2 : m < N := by have := HCM.out.1; omega
          have e1 : ((m + 1 : Nat) : Int) - 1 = (m : Int) := by omega
          rw [e1]
          have hcm2 : c + m + 1 ≤ N := by have := HCM.out.1; omega
          have HML := Lib.hid hml
          clear vs1 vs2 vs3 hmN e1 hml
          by_cases hx : had.getD m 0 = (k : Int)
          · rw [hx] at cm
            have hcc := FIN.out (fun _ => hx)
            have HCC := Lib.hid hcc
            clear hcc hx
            go_wp2_with (at_builtin; go_must (refine wpList_app _ rfl _ _ 25 rfl 3 (.int .i64 0) 1 8 Try.underlying25 info3 rfl (by decide) (.slice p k cap) k (ints (ws.take k)) rfl (HO.out.alloc _) ⟨wo.heap.size, 0, none⟩ 1 1 [.int .i64 c] rfl rfl (new_one _ _ _ _ rfl) (by simp [Value.oneCell']) (by unfold maxLen; omega) (by omega) ?_); intro v1 w1 happ; have hres := HA.out _ _ happ HCC.out; obtain ⟨g1, cp1, rfl⟩ := own_succ happ.own)
            exact ⟨⟨k + 1, by go_num, by omega, hres⟩, by simp [intOf]; omega⟩
          · have HX := Lib.hid hx
            have hx2 : (had.getD m 0 != (k : Int)) = true := by simpa using hx
            generalize hy : had.getD m 0 = y at cm hx2
            clear hx hy
            go_wp2
            go_round
            case rel =>
              refine ⟨c + 1, m, by go_num, rfl, by have := HCM.out.1; omega, fun j hj => ?_⟩
              rcases Nat.lt_succ_iff_lt_or_eq.1 hj with hj | rfl
              · exact HCM.out.2 j hj
              · rw [HML.out]; exact HX.out
            case measure => simp [intOf]
    · obtain rfl : k = n := by omega
      go_wp2
      go_ret
      obtain ⟨hown, hnew, hfr, hlen⟩ := HF.out
      have ht : ws.take k = ws := List.take_of_length_le (by rw [HW.out.1]; exact Nat.le_refl _)
      refine ⟨_, rfl, ?_, hnew, hfr⟩
      rw [HW.out.1]
      rw [ht] at hown
      exact hown

/-- The reference is made. -/
def had0 (last : Int) : List Int := if last < 0 then [] else [last]
def RFromPost (w : World) (n : Nat) (last : Int) (e : Ending) (w' : World) : Prop := ∃ v, e = .returned (.pointer (some ⟨w.heap.size, 0, none⟩)) ∧ RefAt w' w.heap.size n (had0 last) v ∧ (∀ g, v.ownBlock = some g → w.heap.size < g) ∧ Fr [] w w'
theorem rfrom_ok (w : World) (n : Nat) (last : Int) (h1 : 1 ≤ n) (h2 : n ≤ 16) (h3 : -1 ≤ last) (h4 : last < n) :
    Calls Try.prog 12 #[.int .i64 n, .int .i64 last] w (RFromPost w n last) := by
  by_cases h : last < 0
  · obtain rfl : last = -1 := by omega
    go_enter Try.func12, Try.ntmps12
    go_wp2
    go_ret
    exact ⟨_, rfl, ⟨Blk.new _ _ _, World.ownsRow_nil _ _ _ _⟩, by simp [Value.ownBlock], (Fr.refl _ _).alloc _⟩
  · have hh : had0 last = [last] := by unfold had0; rw [if_neg h]
    have HH := Lib.hid hh
    clear hh
    have kb : Blk (w.alloc (.cells #[.int .i64 n, .slice none 0 0] 53)) w.heap.size #[.int .i64 n, .slice none 0 0] 53 := Blk.new _ _ _
    have hA : ∀ g1 cp1 w1, Appended ((w.alloc (.cells #[.int .i64 n, .slice none 0 0] 53)).alloc (.cells #[.int .i64 last] 3)) 3 1 (.slice none 0 0) 1 [.int .i64 last] (.slice (some ⟨g1, 0, none⟩) 1 cp1) w1 →
        (w1.cell? ⟨w.heap.size, 1, none⟩ = some (.slice none 0 0) ∧ w1.frozen? ⟨w.heap.size, 1, none⟩ = false) ∧
        RefAt (w1.setCell ⟨w.heap.size, 1, none⟩ (.slice (some ⟨g1, 0, none⟩) 1 cp1)) w.heap.size n [last] (.slice (some ⟨g1, 0, none⟩) 1 cp1) ∧ w.heap.size < g1 ∧ Fr [] w (w1.setCell ⟨w.heap.size, 1, none⟩ (.slice (some ⟨g1, 0, none⟩) 1 cp1)) := by
      intro g1 cp1 w1 happ
      have f := happ.fr
      have b1 := f.blk (kb.alloc _) (by simp [Value.ownBlock])
      have hg1 : w.heap.size < g1 := by
        rcases happ.place with h | h
        · simp [Value.ownBlock] at h
        · simp [Value.ownBlock] at h; omega
      refine ⟨⟨b1.at 1 rfl, b1.free 1⟩, ⟨b1.set 1 _, ?_⟩, hg1, ?_⟩
      · have := own_fr happ.own ((Fr.refl [w.heap.size] w1).setCell ⟨w.heap.size, 1, none⟩ (.slice (some ⟨g1, 0, none⟩) 1 cp1) (.inl (by simp))) (fun x hx hm => by
          simp at hm; subst hm; simp [Value.ownBlock] at hx; omega)
        simpa [ints] using this
      · exact ((((Fr.refl [] w).alloc _).alloc _).trans f (by simp [Value.ownBlock])).setCell _ _ (.inr (Nat.le_refl _))
    have HA := Lib.hid hA
    clear hA kb
    go_enter Try.func12, Try.ntmps12
    go_wp2_with (at_builtin; go_must (refine wpList_app _ rfl _ _ 25 rfl 3 (.int .i64 0) 1 8 Try.underlying25 info3 rfl (by decide) (.slice none 0 0) 0 [] rfl (World.ownsRow_nil _ _ _ _) ⟨w.heap.size + 1, 0, none⟩ 1 1 [.int .i64 last] rfl rfl (new_one _ _ _ _ (by simp)) (by simp [Value.oneCell']) (by unfold maxLen; omega) (by omega) ?_); intro v1 w1 happ; obtain ⟨g1, cp1, rfl⟩ := own_succ happ.own; obtain ⟨⟨x1, x2⟩, x3⟩ := HA.out g1 cp1 w1 happ; have X3 := Lib.hid x3; clear x3)
    go_ret
    obtain ⟨x3, x4, x5⟩ := X3.out
    exact ⟨_, rfl, by rw [HH.out]; exact x3, fun g hg => by simp [Value.ownBlock] at hg; omega, x5⟩

end Go.Proofs.Ytjinppoecdbloaa
