/-
  The numbers of a set: the document's All; sameInts.
-/
import Derived.Test.YtgoolkgjcmdilaaDoorBiF
import Derived.Test.YtgoolkgjcmdilaaDoorRead
namespace Go.Proofs.YtgoolkgjcmdilaaDoor
open Go.RowKit
set_option linter.unusedVariables false
set_option linter.unusedSimpArgs false
attribute [local go_sem] Oper.semAt_some

/-- The numbers of a set below i. -/
def onesN (B : List Bool) (i : Nat) : List Nat := (List.range i).filter fun k => B.getD k false
def onesI (B : List Bool) (i : Nat) : List Int := (onesN B i).map fun (k : Nat) => (k : Int)
theorem onesN_succ (B : List Bool) (i : Nat) : onesN B (i + 1) = onesN B i ++ if B.getD i false then [i] else [] := by
  unfold onesN
  rw [List.range_succ, List.filter_append]
  congr 1
  cases h : B.getD i false <;> simp only [List.filter_cons, List.filter_nil, h]
theorem onesI_yes {B : List Bool} {i : Nat} (h : B.getD i false = true) : onesI B (i + 1) = onesI B i ++ [(i : Int)] := by
  unfold onesI
  rw [onesN_succ, h, if_pos rfl, List.map_append]
  rfl
theorem onesI_no {B : List Bool} {i : Nat} (h : B.getD i false = false) : onesI B (i + 1) = onesI B i := by
  unfold onesI
  rw [onesN_succ, h, if_neg (by decide), List.append_nil]
theorem onesN_len (B : List Bool) (i : Nat) : (onesN B i).length ≤ i := by
  unfold onesN
  exact Nat.le_trans (List.length_filter_le _ _) (by simp)
theorem onesI_len (B : List Bool) (i : Nat) : (onesI B i).length ≤ i := by
  unfold onesI
  rw [List.length_map]
  exact onesN_len B i
theorem onesN_mem {B : List Bool} {i k : Nat} : k ∈ onesN B i ↔ k < i ∧ B.getD k false = true := by
  unfold onesN
  rw [List.mem_filter, List.mem_range]
theorem onesN_lt {B : List Bool} {i a b : Nat} (hab : a < b) {x y : Nat} (hx : (onesN B i)[a]? = some x) (hy : (onesN B i)[b]? = some y) : x < y := by
  have hp : (onesN B i).Pairwise (· < ·) := List.Pairwise.filter _ List.pairwise_lt_range
  obtain ⟨h1, e1⟩ := List.getElem?_eq_some_iff.1 hx
  obtain ⟨h2, e2⟩ := List.getElem?_eq_some_iff.1 hy
  have := List.pairwise_iff_getElem.1 hp a b h1 h2 hab
  rw [e1, e2] at this
  exact this
/-- The m-th number of a set; -1: there are no more. -/
def nth (B : List Bool) (m : Nat) : Int := match (onesN B B.length)[m]? with | some x => (x : Int) | none => -1
theorem nth_first (B : List Bool) : FirstAt B 0 true (nth B 0) := by
  unfold nth
  cases h : (onesN B B.length)[0]? with
  | some x =>
    have hm := onesN_mem.1 (List.mem_of_getElem? h)
    refine .inl ⟨x, rfl, Nat.zero_le _, hm.1, hm.2, fun j _ hj hb => ?_⟩
    obtain ⟨q, hq⟩ := List.mem_iff_getElem?.1 (onesN_mem.2 ⟨(by omega : j < B.length), hb⟩)
    rcases Nat.eq_zero_or_pos q with h0 | h0
    · subst h0; rw [h] at hq; cases hq; omega
    · have := onesN_lt h0 h hq; omega
  | none =>
    refine .inr ⟨rfl, fun j _ hj hb => ?_⟩
    have hm := onesN_mem.2 ⟨hj, hb⟩
    have hl : (onesN B B.length) = [] := by
      cases hl : onesN B B.length with
      | nil => rfl
      | cons a r => rw [hl] at h; simp at h
    rw [hl] at hm
    cases hm
theorem nth_next {B : List Bool} {m x : Nat} (hx : (onesN B B.length)[m]? = some x) : FirstAt B (x + 1) true (nth B (m + 1)) := by
  unfold nth
  cases h : (onesN B B.length)[m + 1]? with
  | some y =>
    have hm := onesN_mem.1 (List.mem_of_getElem? h)
    have hxy := onesN_lt (Nat.lt_succ_self m) hx h
    refine .inl ⟨y, rfl, hxy, hm.1, hm.2, fun j h1 h2 hb => ?_⟩
    obtain ⟨q, hq⟩ := List.mem_iff_getElem?.1 (onesN_mem.2 ⟨(by omega : j < B.length), hb⟩)
    rcases Nat.lt_trichotomy q m with c | c | c
    · have := onesN_lt c hq hx; omega
    · subst c; rw [hx] at hq; cases hq; omega
    · rcases Nat.lt_or_ge q (m + 2) with d | d
      · obtain rfl : q = m + 1 := by omega
        rw [h] at hq; cases hq; omega
      · have := onesN_lt (show m + 1 < q by omega) h hq; omega
  | none =>
    refine .inr ⟨rfl, fun j h1 h2 hb => ?_⟩
    obtain ⟨q, hq⟩ := List.mem_iff_getElem?.1 (onesN_mem.2 ⟨h2, hb⟩)
    have hql := (List.getElem?_eq_some_iff.1 hq).1
    rw [List.getElem?_eq_none_iff] at h
    rcases Nat.lt_trichotomy q m with c | c | c
    · have := onesN_lt c hq hx; omega
    · subst c; rw [hx] at hq; cases hq; omega
    · omega
theorem iinfo : (Tryd.prog.info? 3).map (fun i => (i.zero, i.size, i.bytes)) = some (some (.int .i64 0), 1, 8) := by kernel_rfl
theorem ints_snoc (xs : List Int) (a : Int) : ints (xs ++ [a]) = ints xs ++ [.int .i64 a] := by simp [ints]
def IntsPost (w : World) (L : List Int) (e : Ending) (w' : World) : Prop := ∃ v, e = .returned v ∧ w'.ownsRow 0 3 1 v L.length (ints L) ∧ (∀ g, v.ownBlock = some g → w.heap.size ≤ g) ∧ Fr [] w w'
set_option maxRecDepth 100000 in
set_option maxHeartbeats 1000000 in
theorem rall_any (w : World) (b : Nat) (v : Value) (B : List Bool) (h : RefB w b v B) : Calls Tryd.prog 28 #[.pointer (some ⟨b, 0, none⟩)] w (IntsPost w (onesI B B.length)) := by
  have HH := Lib.hid h
  have hl := h.lim
  obtain ⟨g, cap, rfl, hz, hc⟩ := h.row
  obtain ⟨n, hn⟩ : ∃ n, n = B.length := ⟨_, rfl⟩
  rw [← hn] at hl ⊢
  have HN := Lib.hid hn
  clear h hz hc hn
  go_enter Tryd.func28, Tryd.ntmps28
  go_wp2_with fail
  go_loopw [3, 4] (fun vl iv wr => ∃ i : Nat, iv = .int .i64 i ∧ i ≤ n ∧ wr.ownsRow 0 3 1 vl (onesI B i).length (ints (onesI B i)) ∧ (∀ g, vl.ownBlock = some g → w.heap.size ≤ g) ∧ Fr [] w wr) (fun _ iv _ => n - (intOf iv).toNat)
  case atStart => exact ⟨0, rfl, Nat.zero_le _, World.ownsRow_nil _ _ _ _, by simp [Value.ownBlock], Fr.refl _ _⟩
  case round =>
    obtain ⟨i, rfl, hi, ho, hf, fr⟩ := hrel
    obtain ⟨wi, hwi⟩ : ∃ wi : World, wi = wr := ⟨_, rfl⟩
    rw [← hwi] at ho fr ⊢
    clear hwi wr
    obtain ⟨vl, hvl⟩ : ∃ vl : Value, vl = u3 := ⟨_, rfl⟩
    rw [← hvl] at ho hf ⊢
    clear hvl
    have hk := HH.out.grow fr
    obtain ⟨g', cap', e, hz, hc⟩ := hk.row
    cases e
    have c0 := hk.hd.at 0 (v := .slice (some ⟨g, 0, none⟩) B.length cap) rfl
    rw [← HN.out] at c0
    have hol := onesI_len B i
    have HO := Lib.hid (And.intro ho (And.intro hf fr))
    by_cases hin : i < n
    · have c1 := hc i (by rw [← HN.out]; exact hin)
      have g0 : (0 : Int) ≤ (i : Int) := by omega
      have g1 : (i : Int) < (n : Int) := by omega
      clear ho hf fr hk hz hc
      cases hx : B.getD i false with
      | true =>
        rw [hx] at c1
        have HX := Lib.hid hx
        clear hx
        go_wp2_with (at_builtin; go_must (refine wpList_app _ rfl _ _ 82 rfl 3 (.int .i64 0) 1 8 Tryd.underlying82 iinfo rfl (by decide) vl (onesI B i).length (ints (onesI B i)) rfl (HO.out.1.alloc _) ⟨wi.heap.size, 0, none⟩ 1 1 [.int .i64 i] rfl rfl (new_one _ _ _ _ rfl) (by simp [Value.oneCell']) (by unfold maxLen; omega) (by omega) ?_); intro v1 w3 happ; have HAP := Lib.hid happ; clear happ)
        have f3 : Fr [] wi (wi.alloc (.cells #[.int .i64 i] 3)) := (Fr.refl _ _).alloc _
        refine ⟨⟨i + 1, by go_num, by omega, ?_, fun g hg => ?_, (HO.out.2.2.trans f3 (by simp)).trans HAP.out.fr (fun k hk => .inr (HO.out.2.1 k (by simpa using hk)))⟩, by simp [intOf]; omega⟩
        · rw [onesI_yes HX.out, ints_snoc, List.length_append]
          exact HAP.out.own
        · rcases HAP.out.place with q | q
          · exact HO.out.2.1 g (by rw [← q]; exact hg)
          · rw [q] at hg; cases hg; have := HO.out.2.2.size; simp; omega
      | false =>
        rw [hx] at c1
        have HX := Lib.hid hx
        clear hx
        go_wp2_with fail
        exact ⟨⟨i + 1, by go_num, by omega, by rw [onesI_no HX.out]; exact HO.out.1, HO.out.2.1, HO.out.2.2⟩, by simp [intOf]; omega⟩
    · obtain rfl : i = n := by omega
      clear ho hf fr hk hz hc
      go_wp2_with fail
      go_ret
      exact ⟨vl, rfl, HO.out.1, HO.out.2.1, HO.out.2.2⟩
set_option maxRecDepth 100000 in
set_option maxHeartbeats 1000000 in
theorem sameInts_any (w : World) (va vb : Value) (A : List Int) (ha : RdInts w va A) (hb : RdInts w vb A) (hl : A.length ≤ 65536) : Calls Tryd.prog 39 #[va, vb] w fun e w' => e = .returned (.bool true) ∧ Fr [] w w' := by
  obtain ⟨p1, k1, rfl, _, h1⟩ := ha
  obtain ⟨p2, k2, rfl, _, h2⟩ := hb
  obtain ⟨n, hn⟩ : ∃ n, n = A.length := ⟨_, rfl⟩
  rw [← hn] at hl h1 h2
  simp only [← hn]
  have H1 := Lib.hid h1
  have H2 := Lib.hid h2
  clear h1 h2 hn
  go_enter Tryd.func39, Tryd.ntmps39
  go_wp2_with fail
  go_loopw [5] (fun iw wr => ∃ i : Nat, iw = .int .i64 i ∧ i ≤ n ∧ Fr [] w wr) (fun iw _ => n - (intOf iw).toNat)
  case atStart => exact ⟨0, rfl, Nat.zero_le _, Fr.refl _ _⟩
  case round =>
    obtain ⟨i, rfl, hi, hf⟩ := hrel
    obtain ⟨wi, hwi⟩ : ∃ wi : World, wi = wr := ⟨_, rfl⟩
    rw [← hwi] at hf ⊢
    clear hwi
    by_cases hin : i < n
    · obtain ⟨g1, o1, rfl, q1⟩ := H1.out.resolve_left (by omega)
      obtain ⟨g2, o2, rfl, q2⟩ := H2.out.resolve_left (by omega)
      have c1 := (hf.cell (World.block_lt_of_cell? w _ (q1 i hin)) (by simp)).trans (q1 i hin)
      have c2 := (hf.cell (World.block_lt_of_cell? w _ (q2 i hin)) (by simp)).trans (q2 i hin)
      generalize A.getD i 0 = x at *
      have g0 : (0 : Int) ≤ (i : Int) := by omega
      have g1' : (i : Int) < (n : Int) := by omega
      have HF := Lib.hid hf
      clear hf q1 q2
      go_wp2_with fail
      go_region
      simp only [Exit.then]
      go_wp2_with fail
      refine ⟨⟨i + 1, by go_num, by omega, HF.out.drew⟩, by simp [intOf]; omega⟩
    · obtain rfl : i = n := by omega
      have HF := Lib.hid hf
      clear hf
      go_wp2_with fail
      go_ret
      exact ⟨rfl, HF.out⟩
theorem tmod3 (n : Int) : -2 ≤ n.tmod 3 ∧ n.tmod 3 ≤ 2 ∧ (n.tmod 3 + 3) % 3 = n % 3 := by
  rcases Int.le_total 0 n with h | h
  · rw [Int.tmod_eq_emod_of_nonneg h]; omega
  · obtain ⟨m, rfl⟩ : ∃ m, n = -m := ⟨-n, by omega⟩
    rw [Int.neg_tmod, Int.tmod_eq_emod_of_nonneg (by omega)]; omega
theorem three_any (w : World) (n : Int) : Calls Tryd.prog 29 #[.int .i64 n] w fun e w' => e = .returned (.int .i64 ((n % 3))) ∧ w = w' := by
  obtain ⟨h1, h2, h3⟩ := tmod3 n
  have e2 : wrap64 (n.tmod 3 + 3) = n.tmod 3 + 3 := w64 (by omega)
  have e1 : (n.tmod 3 + 3).tmod 3 = n % 3 := by rw [Int.tmod_eq_emod_of_nonneg (by omega)]; exact h3
  clear h1 h2 h3
  go_enter Tryd.func29, Tryd.ntmps29
  go_wp2
  go_ret
  exact ⟨rfl, rfl⟩
end Go.Proofs.YtgoolkgjcmdilaaDoor
