/-
  The document's sets: New, Has, Add, Del, Count, Least.
-/
import Derived.Test.YtgoolkgjcmdilaaDoorBiD
namespace Go.Proofs.YtgoolkgjcmdilaaDoor
open Go.RowKit
set_option linter.unusedVariables false
set_option linter.unusedSimpArgs false
attribute [local go_sem] Oper.semAt_some

structure RefB (W : World) (b : Nat) (v : Value) (B : List Bool) : Prop where
  hd : Blk W b #[v] 157
  own : W.ownsRow 0 4 1 v B.length (bools B)
  nn : v.ownBlock ≠ none
  lim : B.length ≤ 65536
theorem RefB.fr {S : List Nat} {W W' : World} {b : Nat} {v : Value} {B : List Bool} (h : RefB W b v B) (hf : Fr S W W') (h1 : b ∉ S) (h2 : ∀ g, v.ownBlock = some g → g ∉ S) : RefB W' b v B :=
  ⟨hf.blk h.hd h1, own_fr h.own hf h2, h.nn, h.lim⟩
theorem RefB.grow {W W' : World} {b : Nat} {v : Value} {B : List Bool} (h : RefB W b v B) (hf : Fr [] W W') : RefB W' b v B := h.fr hf (by simp) (by simp)
theorem RefB.row {W : World} {b : Nat} {v : Value} {B : List Bool} (h : RefB W b v B) :
    ∃ g cap, v = .slice (some ⟨g, 0, none⟩) B.length cap ∧ (∀ i, W.frozen? ⟨g, i, none⟩ = false) ∧ ∀ i, i < B.length → W.cell? ⟨g, i, none⟩ = some (.bool (B.getD i false)) := by
  rcases h.own.2 with ⟨rfl, _⟩ | ⟨g, cap, cur, rfl, _, hg, hnc, hm, _, _⟩
  · exact absurd rfl h.nn
  · refine ⟨g, cap, rfl, fun i => Blk.free hg i, fun i hi => ?_⟩
    have := h.own.cells (g := g) rfl i (.bool (B.getD i false)) (bools_get B hi)
    rw [Addr.add_lit] at this
    simpa using this
theorem bools_set (B : List Bool) (i : Nat) (c : Bool) : (bools B).set i (.bool c) = bools (B.set i c) := by simp [bools, List.map_set]
theorem RefB.upd {W : World} {b g : Nat} {v : Value} {B : List Bool} (h : RefB W b v B) (hg : v.ownBlock = some g) {i : Nat} (hi : i < B.length) (c : Bool) : RefB (W.setCell ⟨g, i, none⟩ (.bool c)) b v (B.set i c) := by
  have hbg : b ≠ g := fun e => by subst e; exact own_notin h.own h.hd (by decide) (by simp [hg])
  refine ⟨h.hd.other _ _ hbg, ?_, h.nn, by rw [List.length_set]; exact h.lim⟩
  rw [List.length_set, ← bools_set]
  exact own_set h.own hg i _ (by rw [bools_len]; exact hi)
theorem binfo : (Tryd.prog.info? 4).map (fun i => (i.zero, i.size, i.bytes)) = some (some (.bool false), 1, 1) := by kernel_rfl
theorem made_bools (n : Nat) : madeCells (Value.bool false).cells (n * 1) = (bools (List.replicate n false)).toArray := by
  apply Array.ext
  · simp [madeCells, bools]
  · intro i h1 h2
    simp [madeCells, bools, Value.cells, Nat.mod_one]
theorem make_bools (n : Nat) (hn : n ≤ 1000000) (w : World) : (Instr.makeSlice 155 (.int .i64 (n : Int)) (.int .i64 (n : Int))).run Tryd.prog w =
    .ok (.slice (some ⟨w.heap.size, 0, none⟩) n n) (w.alloc (.cells (bools (List.replicate n false)).toArray 4)) := by
  obtain ⟨i, hi, hz, hs, hb⟩ := info_parts binfo
  have hr := run_make (P := Tryd.prog) w 155 4 i (.bool false) Tryd.underlying155 hi hz .i64 .i64 n n (by omega) (by omega) (by rw [hb]; omega) (by omega)
  rw [hs, Int.toNat_natCast, made_bools] at hr
  exact hr
def NewRPost (w : World) (n : Nat) (e : Ending) (w' : World) : Prop :=
  ∃ b v, e = .returned (.pointer (some ⟨b, 0, none⟩)) ∧ RefB w' b v (List.replicate n false) ∧ w.heap.size ≤ b ∧ (∀ g, v.ownBlock = some g → w.heap.size ≤ g) ∧ Fr [] w w'
set_option maxRecDepth 100000 in
theorem newR_any (w : World) (n : Nat) (hn : n ≤ 65536) : Calls Tryd.prog 26 #[.int .i64 (n : Nat)] w (NewRPost w n) := by
  have hmk := make_bools n (by omega) w
  have hP : NewRPost w n (.returned (.pointer (some ⟨w.heap.size + 1, 0, none⟩))) ((w.alloc (.cells (bools (List.replicate n false)).toArray 4)).alloc (.cells #[.slice (some ⟨w.heap.size, 0, none⟩) n n] 157)) := by
    refine ⟨w.heap.size + 1, .slice (some ⟨w.heap.size, 0, none⟩) n n, rfl, ⟨Blk.new_at (by simp) _ _, ?_, by simp [Value.ownBlock], by simpa using hn⟩, by omega, by simp [Value.ownBlock], ((Fr.refl _ _).alloc _).alloc _⟩
    exact ⟨by simp [bools], .inr ⟨w.heap.size, n, _, by simp, Nat.zero_le _, heap_alloc_old _ _ (by simp) |>.trans (heap_alloc_new w _), by simp, by unfold maxLen; omega, by simp [bools], by simp [bools]⟩⟩
  have HP := Lib.hid hP
  clear hP
  go_enter Tryd.func26, Tryd.ntmps26
  go_wp2
  refine bodyPost_ret (v := .pointer (some ⟨w.heap.size + 1, 0, none⟩)) (by simp [results, Tryd.results26, go_sem]) rfl ?_
  exact HP.out
theorem rhas_any (w : World) (b : Nat) (v : Value) (B : List Bool) (i : Int) (h : RefB w b v B) : Calls Tryd.prog 82 #[.pointer (some ⟨b, 0, none⟩), .int .i64 i] w fun e w' => e = .returned (.bool (hasB B i)) ∧ w = w' := by
  obtain ⟨g, cap, rfl, hz, hc⟩ := h.row
  have c0 := h.hd.at 0 (v := .slice (some ⟨g, 0, none⟩) B.length cap) rfl
  by_cases h1 : 0 ≤ i
  · by_cases h2 : i < (B.length : Int)
    · obtain ⟨m, rfl⟩ : ∃ m : Nat, i = m := ⟨i.toNat, by omega⟩
      have c1 := hc m (by omega)
      rw [hasB_nat]
      generalize B.getD m false = x at *
      clear h hc
      go_enter Tryd.func82, Tryd.ntmps82
      go_wp2
      go_ret
      exact ⟨rfl, rfl⟩
    · have hh : hasB B i = false := by
        unfold hasB
        rw [getD_out B _ (by omega)]; simp
      rw [hh]
      clear h hc hh
      go_enter Tryd.func82, Tryd.ntmps82
      go_wp2
      go_ret
      exact ⟨rfl, rfl⟩
  · have hh : hasB B i = false := by unfold hasB; simp; omega
    rw [hh]
    clear h hc hh
    go_enter Tryd.func82, Tryd.ntmps82
    go_wp2
    go_ret
    exact ⟨rfl, rfl⟩
/-- A set of the document that is changed. -/
def RBChg (w : World) (b : Nat) (v : Value) (B' : List Bool) (a : Value) (e : Ending) (w' : World) : Prop := e = .returned a ∧ RefB w' b v B' ∧ Fr v.ownBlock.toList w w'
/-- Whether a number may be put in; the set behind it. -/
def addA (B : List Bool) (i : Int) : Bool := decide (0 ≤ i ∧ i < (B.length : Int)) && !hasB B i
def addB (B : List Bool) (i : Int) : List Bool := if addA B i then B.set i.toNat true else B
def delB (B : List Bool) (i : Int) : List Bool := if hasB B i then B.set i.toNat false else B
theorem radd_any (w : World) (b : Nat) (v : Value) (B : List Bool) (i : Int) (h : RefB w b v B) : Calls Tryd.prog 79 #[.pointer (some ⟨b, 0, none⟩), .int .i64 i] w (RBChg w b v (addB B i) (.bool (addA B i))) := by
  have HH := Lib.hid h
  obtain ⟨g, cap, rfl, hz, hc⟩ := h.row
  have c0 := h.hd.at 0 (v := .slice (some ⟨g, 0, none⟩) B.length cap) rfl
  by_cases h1 : 0 ≤ i
  · by_cases h2 : i < (B.length : Int)
    · obtain ⟨m, rfl⟩ : ∃ m : Nat, i = m := ⟨i.toNat, by omega⟩
      have c1 := hc m (by omega)
      have fz := hz m
      have hm : m < B.length := by omega
      unfold addB addA
      rw [hasB_nat, decide_eq_true (And.intro h1 h2), Bool.true_and, Int.toNat_natCast]
      have HM := Lib.hid hm
      generalize B.getD m false = x at *
      obtain ⟨n, hn⟩ : ∃ n, n = B.length := ⟨_, rfl⟩
      rw [← hn] at c0 h2
      clear h hc hm hz hn
      cases x with
      | true =>
        go_enter Tryd.func79, Tryd.ntmps79
        go_wp2
        go_ret
        exact ⟨rfl, HH.out, Fr.refl _ _⟩
      | false =>
        go_enter Tryd.func79, Tryd.ntmps79
        go_wp2
        go_ret
        exact ⟨rfl, HH.out.upd rfl HM.out true, (Fr.refl _ _).setCell _ _ (.inl (by simp [Value.ownBlock]))⟩
    · have hh : addA B i = false := by unfold addA; rw [decide_eq_false (fun q => h2 q.2)]; rfl
      unfold addB
      rw [hh, if_neg (by decide)]
      obtain ⟨n, hn⟩ : ∃ n, n = B.length := ⟨_, rfl⟩
      rw [← hn] at c0 h2
      clear h hc hh hn
      go_enter Tryd.func79, Tryd.ntmps79
      go_wp2
      go_ret
      exact ⟨rfl, HH.out, Fr.refl _ _⟩
  · have hh : addA B i = false := by unfold addA; rw [decide_eq_false (fun q => h1 q.1)]; rfl
    unfold addB
    rw [hh, if_neg (by decide)]
    clear h hc hh
    go_enter Tryd.func79, Tryd.ntmps79
    go_wp2
    go_ret
    exact ⟨rfl, HH.out, Fr.refl _ _⟩
theorem hasB_in {B : List Bool} {i : Int} (h : hasB B i = true) : ∃ m : Nat, i = m ∧ m < B.length := by
  unfold hasB at h
  rw [Bool.and_eq_true] at h
  have h1 : 0 ≤ i := by simpa using h.1
  refine ⟨i.toNat, by omega, ?_⟩
  rcases Nat.lt_or_ge i.toNat B.length with q | q
  · exact q
  · rw [getD_out B _ q] at h; cases h.2
theorem rdelB_any (w : World) (b : Nat) (v : Value) (B : List Bool) (i : Int) (h : RefB w b v B) : Calls Tryd.prog 81 #[.pointer (some ⟨b, 0, none⟩), .int .i64 i] w (RBChg w b v (delB B i) (.bool (hasB B i))) := by
  have HH := Lib.hid h
  have HS := Lib.hid (rhas_any w b v B i h)
  obtain ⟨g, cap, rfl, hz, hc⟩ := h.row
  have c0 := h.hd.at 0 (v := .slice (some ⟨g, 0, none⟩) B.length cap) rfl
  unfold delB
  cases hx : hasB B i with
  | true =>
    obtain ⟨m, rfl, hm⟩ := hasB_in hx
    rw [hx] at HS
    have c1 := hc m hm
    have fz := hz m
    rw [if_pos rfl, Int.toNat_natCast]
    have HM := Lib.hid hm
    have g0 : (0 : Int) ≤ (m : Int) := by omega
    have g1 : (m : Int) < (B.length : Int) := by omega
    generalize B.getD m false = x at *
    obtain ⟨n, hn⟩ : ∃ n, n = B.length := ⟨_, rfl⟩
    rw [← hn] at c0 g1
    clear h hc hm hz hx hn
    go_enter Tryd.func81, Tryd.ntmps81
    go_wp2_with fail
    (with_reducible refine (HS.out).mono ?_)
    rintro e w1 ⟨rfl, rfl⟩
    go_wp2
    go_ret
    exact ⟨rfl, HH.out.upd rfl HM.out false, (Fr.refl _ _).setCell _ _ (.inl (by simp [Value.ownBlock]))⟩
  | false =>
    rw [hx] at HS
    rw [if_neg (by decide)]
    clear h hc hz hx
    go_enter Tryd.func81, Tryd.ntmps81
    go_wp2_with fail
    (with_reducible refine (HS.out).mono ?_)
    rintro e w1 ⟨rfl, rfl⟩
    go_wp2
    go_ret
    exact ⟨rfl, HH.out, Fr.refl _ _⟩
set_option maxRecDepth 100000 in
theorem rcount_any (w : World) (b : Nat) (v : Value) (B : List Bool) (h : RefB w b v B) : Calls Tryd.prog 83 #[.pointer (some ⟨b, 0, none⟩)] w fun e w' => e = .returned (.int .i64 (countB B : Nat)) ∧ w = w' := by
  obtain ⟨g, cap, rfl, hz, hc⟩ := h.row
  have c0 := h.hd.at 0 (v := .slice (some ⟨g, 0, none⟩) B.length cap) rfl
  have hl := h.lim
  obtain ⟨n, hn⟩ : ∃ n, n = B.length := ⟨_, rfl⟩
  rw [← hn] at c0 hl
  have HC := Lib.hid (And.intro hc hn)
  have hU := Lib.hid (show cntF (fun j => B.getD j false) n = countB B by rw [hn]; rfl)
  clear h hz hc hn
  go_enter Tryd.func83, Tryd.ntmps83
  go_wp2_with fail
  go_loopw [3, 4] (fun nv iv wr => ∃ i : Nat, iv = .int .i64 i ∧ i ≤ n ∧ nv = .int .i64 (cntF (fun j => B.getD j false) i : Nat) ∧ w = wr) (fun _ iv _ => n - (intOf iv).toNat)
  case atStart => exact ⟨0, rfl, Nat.zero_le _, rfl, rfl⟩
  case round =>
    obtain ⟨i, rfl, hi, rfl, rfl⟩ := hrel
    by_cases hin : i < n
    · have c1 := HC.out.1 i (by rw [← HC.out.2]; exact hin)
      have hst : cntF (fun j => B.getD j false) (i + 1) = cntF (fun j => B.getD j false) i + (B.getD i false).toNat := rfl
      have hcl := cntF_le (fun j => B.getD j false) i
      obtain ⟨a, ha⟩ : ∃ a, a = cntF (fun j => B.getD j false) i := ⟨_, rfl⟩
      rw [← ha] at hst hcl ⊢
      have HS := Lib.hid hst
      have g0 : (0 : Int) ≤ (i : Int) := by omega
      have g1 : (i : Int) < (n : Int) := by omega
      clear hst ha
      cases hx : B.getD i false with
      | true =>
        rw [hx] at c1
        have HX := Lib.hid hx
        clear hx
        go_wp2_with fail
        refine ⟨⟨i + 1, by go_num, by omega, by rw [HS.out, HX.out]; go_num, by first | rfl | trivial⟩, by simp [intOf]; omega⟩
      | false =>
        rw [hx] at c1
        have HX := Lib.hid hx
        clear hx
        go_wp2_with fail
        refine ⟨⟨i + 1, by go_num, by omega, by rw [HS.out, HX.out]; rfl, by first | rfl | trivial⟩, by simp [intOf]; omega⟩
    · obtain rfl : i = n := by omega
      rw [hU.out]
      go_wp2_with fail
      go_ret
      exact ⟨rfl, rfl⟩
/-- The document's Least: one answer for both. -/
theorem first_uniq {B : List Bool} {k : Nat} {c : Bool} {a a' : Int} (h : FirstAt B k c a) (h' : FirstAt B k c a') : a = a' := by
  rcases h with ⟨i, rfl, h1, h2, h3, h4⟩ | ⟨rfl, h1⟩
  · rcases h' with ⟨j, rfl, g1, g2, g3, g4⟩ | ⟨rfl, g1⟩
    · rcases Nat.lt_trichotomy i j with q | q | q
      · exact absurd h3 (g4 i h1 q)
      · rw [q]
      · exact absurd g3 (h4 j g1 q)
    · exact absurd h3 (g1 i h1 h2)
  · rcases h' with ⟨j, rfl, g1, g2, g3, g4⟩ | ⟨rfl, g1⟩
    · exact absurd g3 (h1 j g1 g2)
    · rfl
set_option maxRecDepth 100000 in
theorem rleast_any (w : World) (b : Nat) (v : Value) (B : List Bool) (k : Int) (c : Bool) (h : RefB w b v B) : Calls Tryd.prog 84 #[.pointer (some ⟨b, 0, none⟩), .int .i64 k, .bool c] w (FirstP w B k.toNat c) := by
  obtain ⟨g, cap, rfl, hz, hc⟩ := h.row
  have c0 := h.hd.at 0 (v := .slice (some ⟨g, 0, none⟩) B.length cap) rfl
  have hl := h.lim
  obtain ⟨n, hn⟩ : ∃ n, n = B.length := ⟨_, rfl⟩
  rw [← hn] at c0 hl
  have HC := Lib.hid (And.intro hc hn)
  clear h hz hc hn
  go_enter Tryd.func84, Tryd.ntmps84
  go_wp2_with fail
  go_loopw [7] (fun iv wr => ∃ i : Nat, iv = .int .i64 i ∧ i ≤ n ∧ (∀ j, k.toNat ≤ j → j < i → B.getD j false ≠ c) ∧ w = wr) (fun iv _ => n - (intOf iv).toNat)
  case atStart => exact ⟨0, rfl, Nat.zero_le _, fun j _ hj => absurd hj (by omega), rfl⟩
  case round =>
    obtain ⟨i, rfl, hi, hno, rfl⟩ := hrel
    have HNO := Lib.hid hno
    clear hno
    by_cases hin : i < n
    · have c1 := HC.out.1 i (by rw [← HC.out.2]; exact hin)
      have g0 : (0 : Int) ≤ (i : Int) := by omega
      have g1 : (i : Int) < (n : Int) := by omega
      by_cases hki : k ≤ (i : Int)
      · by_cases hx : B.getD i false = c
        · rw [hx] at c1
          have HX := Lib.hid hx
          clear hx
          go_wp2_with fail
          go_ret
          exact ⟨i, rfl, .inl ⟨i, rfl, by omega, by rw [← HC.out.2]; exact hin, HX.out, HNO.out⟩, rfl⟩
        · have HX := Lib.hid hx
          have hxc : B.getD i false = !c := by cases c <;> cases hb : B.getD i false <;> simp_all
          rw [hxc] at c1
          have hb : ((!c) == c) = false := by cases c <;> rfl
          clear hx hxc
          go_wp2_with fail
          refine ⟨⟨i + 1, by go_num, by omega, fun j a b => ?_, by first | rfl | trivial⟩, by simp [intOf]; omega⟩
          rcases Nat.lt_or_ge j i with q | q
          · exact HNO.out j a q
          · obtain rfl : j = i := by omega
            exact HX.out
      · go_wp2_with fail
        refine ⟨⟨i + 1, by go_num, by omega, fun j a b => ?_, by first | rfl | trivial⟩, by simp [intOf]; omega⟩
        rcases Nat.lt_or_ge j i with q | q
        · exact HNO.out j a q
        · omega
    · obtain rfl : i = n := by omega
      go_wp2_with fail
      go_ret
      exact ⟨-1, rfl, .inr ⟨rfl, fun j a b => HNO.out j a (by rw [HC.out.2]; exact b)⟩, rfl⟩
end Go.Proofs.YtgoolkgjcmdilaaDoor
