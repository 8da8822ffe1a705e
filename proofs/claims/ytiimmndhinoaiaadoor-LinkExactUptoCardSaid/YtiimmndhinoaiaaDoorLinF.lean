/-
  Books of a line of texts; texts; From.
-/
import Derived.Test.YtiimmndhinoaiaaDoorLinS
import Derived.Test.YtiimmndhinoaiaaDoorTxA
import Derived.Test.YtiimmndhinoaiaaDoorRefB
namespace Go.Proofs.YtiimmndhinoaiaaDoor
open Go.RowKit Go.Shelf
set_option linter.unusedVariables false
attribute [local go_sem] Oper.semAt_some
theorem books_any (w : World) (b : Nat) (v : Value) (L : List ByteArray) (most : Nat) (B : Bk) (h : LnS.LineAt w b v L most B) : Calls Tryd.prog 41 #[.pointer (some ⟨b, 0, none⟩)] w fun e w' =>
    e = .returned (.tuple #[.int .i64 B.p, .int .i64 B.c, .int .i64 B.d, .int .i64 B.e]) ∧ Fr [] w w' := by
  obtain ⟨-, -, c2, c3, c4, c5, -⟩ := h.books
  clear h
  obtain ⟨p, c, d, e⟩ := B
  dsimp only at c2 c3 c4 c5 ⊢
  go_enter Tryd.func41, Tryd.ntmps41
  go_wp2
  go_quiet (fail)
  go_wp2
  exact bodyPost_ret (v := .tuple #[.int .i64 p, .int .i64 c, .int .i64 d, .int .i64 e]) (by simp [results, Tryd.results41, go_sem]) rfl ⟨rfl, (Fr.refl _ _).drewN _⟩
/-- At the loop's head. -/
def TxtAt (w : World) (L : List Int) (j : Nat) (v : Value) (W : World) : Prop :=
  W.ownsRow 0 9 1 v j (strs ((L.take j).map txt)) ∧ Fr [] w W ∧ ∀ g, v.ownBlock = some g → w.heap.size ≤ g
theorem TxtAt.app {w W W2 w3 : World} {L : List Int} {j : Nat} {v v1 : Value} {o : Obj} (h : TxtAt w L j v W) (f : Fr [] W W2) (hj : j < L.length)
    (ha : Appended (W2.alloc o) 9 1 v (j + 1) (strs ((L.take j).map txt) ++ [.string (txt L[j])]) v1 w3) : TxtAt w L (j + 1) v1 w3 := by
  refine ⟨?_, ((h.2.1.trans f (by simp)).alloc o).trans ha.fr (fun x hx => .inr (h.2.2 x (by simpa using hx))), fun g hg => ?_⟩
  · have e : strs ((L.take (j + 1)).map txt) = strs ((L.take j).map txt) ++ [.string (txt L[j])] := by
      rw [List.take_succ_eq_append_getElem hj]
      simp only [strs, List.map_append, List.map_cons, List.map_nil]
    rw [e]
    exact ha.own
  · rcases ha.place with q | q
    · exact h.2.2 g (by rw [← q]; exact hg)
    · rw [hg] at q; cases q
      have := h.2.1.size
      have := f.size
      simp; omega
def TxtPost (w : World) (L : List Int) (e : Ending) (w' : World) : Prop :=
  ∃ v', e = .returned v' ∧ w'.ownsRow 0 9 1 v' L.length (strs (L.map txt)) ∧ Fr [] w w' ∧ ∀ g, v'.ownBlock = some g → w.heap.size ≤ g
set_option maxRecDepth 100000 in
set_option maxHeartbeats 1000000 in
theorem texts_any (w : World) (pv : Value) (L : List Int) (h : RdF w pv L.length 1 (ints L)) (hi : ∀ x ∈ L, I64 x) (hl : L.length ≤ 1048576) (hT : TB w) :
    Calls Tryd.prog 5 #[pv] w (TxtPost w L) := by
  obtain ⟨p, cap, rfl, hc, hcm⟩ := h.form
  have HP := Lib.hid (And.intro h (And.intro hi hT))
  obtain ⟨n, hn⟩ : ∃ n, n = L.length := ⟨_, rfl⟩
  rw [← hn] at hl hc ⊢
  have HN := Lib.hid hn
  clear h hn hc hcm hi hT
  go_enter Tryd.func5, Tryd.ntmps5
  go_wp2_with fail
  go_loopw [3, 4] (fun v i wr => ∃ j : Nat, i = .int .i64 j ∧ j ≤ n ∧ TxtAt w L j v wr) (fun _ i _ => n - (intOf i).toNat)
  case atStart => exact ⟨0, rfl, Nat.zero_le _, World.ownsRow_nil _ _ _ _, Fr.refl _ _, by simp [Value.ownBlock]⟩
  case round =>
    obtain ⟨j, rfl, hj, hA⟩ := hrel
    obtain ⟨wi, rfl⟩ : ∃ wi : World, wi = wr := ⟨_, rfl⟩
    by_cases hlt : j < n
    · obtain ⟨g, o, cap', he, _, _, hcell⟩ := HP.out.1.pos (by have := HN.out; omega)
      rw [← HN.out] at he
      cases he
      have hjl : j < L.length := by have := HN.out; omega
      obtain ⟨x, hx⟩ : ∃ x, L[j] = x := ⟨_, rfl⟩
      have c0 : w.cell? ⟨g, o + j, none⟩ = some (.int .i64 x) := hcell j _ (by simp [ints, hjl, hx])
      have d0 := (hA.2.1.cell (World.block_lt_of_cell? w _ c0) (by simp)).trans c0
      have HX := Lib.hid (text_any wi x (HP.out.2.1 x (by rw [← hx]; exact List.getElem_mem hjl)) (HP.out.2.2.fr hA.2.1 (by simp)))
      have HA := Lib.hid (And.intro hA (show ∃ h : j < L.length, L[j] = x from ⟨hjl, hx⟩))
      have j0 : (0 : Int) ≤ (j : Int) := by omega
      have j1 : (j : Int) < (n : Int) := by omega
      clear hcell c0 hx hA hjl
      go_wp2_with fail
      (with_reducible refine HX.out.mono ?_)
      rintro e w2 ⟨rfl, f2⟩
      have HF := Lib.hid f2
      have hown := own_fr HA.out.1.1 f2 (by simp)
      generalize ht : txt x = s
      have HS := Lib.hid ht
      clear ht f2
      go_wp2_with (at_builtin; go_must (refine wpList_app _ rfl _ _ 24 rfl 9 (.string ⟨#[]⟩) 1 16 Tryd.underlying24 LnS.info3 rfl (by decide) _ _ _ rfl (hown.alloc _) ⟨w2.heap.size, 0, none⟩ 1 1 [.string s] rfl rfl (new_one _ _ _ _ rfl) (by simp [Value.oneCell']) (by unfold maxLen; omega) (by omega) ?_); intro v1 w3 happ; have HAP := Lib.hid happ; clear happ)
      go_roundw
      case rel =>
        obtain ⟨hjl, hx⟩ := HA.out.2
        refine ⟨j + 1, by go_num, by omega, HA.out.1.app (o := .cells #[.string s] 9) HF.out hjl ?_⟩
        rw [hx, HS.out]
        exact HAP.out
      case measure => simp [intOf]; omega
    · obtain rfl : j = n := by omega
      have HA := Lib.hid hA
      clear hA
      go_wp2
      go_ret
      have := HA.out
      unfold TxtAt at this
      rw [List.take_of_length_le (by rw [← HN.out]; exact Nat.le_refl _), HN.out] at this
      exact ⟨_, rfl, this.1, this.2.1, this.2.2⟩
theorem from_arg (w : World) (most : Int) (pv : Value) (hp : ∃ p n c, pv = .slice p n c) (h : most < 1 ∨ 64 < most) : Calls Tryd.prog 6 #[.int .i64 most, pv] w fun e w' => e = .returned (.tuple #[.pointer none, .int .i64 2]) ∧ w = w' := by
  obtain ⟨p, n, c, rfl⟩ := hp
  have HN := Lib.hid (LnS.new_no w most h)
  clear h
  go_enter Tryd.func6, Tryd.ntmps6
  go_wp2_with fail
  (with_reducible refine HN.out.mono ?_)
  rintro e w1 ⟨rfl, rfl⟩
  go_wp2
  go_ret2
  exact ⟨rfl, rfl⟩
theorem from_full (w : World) (most n : Nat) (p : Option Addr) (c : Nat) (h1 : 1 ≤ most) (h2 : most ≤ 64) (hn : most < n) : Calls Tryd.prog 6 #[.int .i64 most, .slice p n c] w fun e w' => e = .returned (.tuple #[.pointer none, .int .i64 5]) ∧ Fr [] w w' := by
  have HN := Lib.hid (LnS.new_ok w most h1 h2)
  have hlt : (most : Int) < (n : Int) := by omega
  clear h1 h2 hn
  go_enter Tryd.func6, Tryd.ntmps6
  go_wp2_with fail
  (with_reducible refine HN.out.mono ?_)
  rintro e w1 ⟨rfl, h1, f1⟩
  have HF := Lib.hid f1
  clear h1 f1
  go_wp2
  go_ret2
  exact ⟨rfl, HF.out⟩
def FromPost (w : World) (L : List ByteArray) (most : Nat) (e : Ending) (w' : World) : Prop :=
  ∃ b v', e = .returned (.tuple #[.pointer (some ⟨b, 0, none⟩), .int .i64 0]) ∧ LnS.LineAt w' b v' L most ⟨0, 0, 0, 0⟩ ∧ w.heap.size ≤ b ∧ (∀ g, v'.ownBlock = some g → w.heap.size ≤ g) ∧ Fr [] w w'
set_option maxHeartbeats 1000000 in
theorem from_ok (w : World) (most : Nat) (pv : Value) (L : List ByteArray) (h : RdF w pv L.length 1 (strs L)) (h1 : 1 ≤ most) (h2 : most ≤ 64) (hl : L.length ≤ most) : Calls Tryd.prog 6 #[.int .i64 most, pv] w (FromPost w L most) := by
  obtain ⟨p, c, rfl, hc, hcm⟩ := h.form
  have HN := Lib.hid (LnS.new_ok w most h1 h2)
  have HR := Lib.hid (And.intro h (And.intro hl h2))
  obtain ⟨n, hn⟩ : ∃ n, n = L.length := ⟨_, rfl⟩
  rw [← hn] at hl HR ⊢
  have hlt : ¬ (most : Int) < (n : Int) := by omega
  have HNn := Lib.hid hn
  clear h h1 h2 hc hn hl
  go_enter Tryd.func6, Tryd.ntmps6
  go_wp2_with fail
  (with_reducible refine HN.out.mono ?_)
  rintro e w1 ⟨rfl, h1, f1⟩
  obtain ⟨b, hb⟩ : ∃ b, b = w.heap.size := ⟨_, rfl⟩
  rw [← hb] at h1 ⊢
  obtain ⟨c0, -⟩ := h1.books
  have hrd := HR.out.1.grow f1
  have HE := Lib.hid (fun v1 w3 (ha : Appended w1 9 1 (.slice none 0 0) n (strs L) v1 w3) => show (w3.cell? ⟨b, 0, none⟩ = some (.slice none 0 0) ∧ w3.frozen? ⟨b, 0, none⟩ = false) ∧ FromPost w L most (.returned (.tuple #[.pointer (some ⟨b, 0, none⟩), .int .i64 0])) (w3.setCell ⟨b, 0, none⟩ v1) from by
    have f3 : Fr [] w1 w3 := ha.fr.mono (by simp [Value.ownBlock])
    have hb3 := f3.blk h1.1 (by simp)
    have ho : w3.ownsRow 0 9 1 v1 L.length (strs L) := by have := ha.own; rw [HNn.out] at this; exact this
    have hnb : b ∉ v1.ownBlock.toList := own_notin ho hb3 (by decide)
    refine ⟨⟨hb3.at 0 rfl, hb3.free 0⟩, b, v1, rfl, ⟨hb3.set 0 v1, own_fr ho ((Fr.refl [b] w3).setCell _ _ (.inl (by simp))) (fun g hg hm => hnb (by simp at hm; subst hm; simp [hg]))⟩, by omega, fun g hg => ?_, (f1.trans f3 (by simp)).setCell _ _ (.inr (by rw [hb]; exact Nat.le_refl _))⟩
    rcases ha.place with q | q
    · rw [hg] at q; simp [Value.ownBlock] at q
    · rw [hg] at q; cases q; exact f1.size)
  clear h1 hb f1
  go_wp2_with (at_builtin; go_must (refine wpList_appF _ rfl _ _ 24 rfl 9 (.string ⟨#[]⟩) 1 16 Tryd.underlying24 LnS.info3 rfl (by decide) _ 0 [] rfl (World.ownsRow_nil _ _ _ _) _ n (strs L) rfl hrd (strs_one L) (by have := HR.out.2; unfold maxLen; omega) (by have := HR.out.2; omega) ?_); intro v1 w3 happ; rw [Nat.zero_add, List.nil_append] at happ; obtain ⟨pp, cc, rfl⟩ := own_form happ.own; obtain ⟨⟨e1, e2⟩, e5⟩ := HE.out _ _ happ; have E5 := Lib.hid e5; clear e5 happ)
  go_ret2
  exact E5.out
end Go.Proofs.YtiimmndhinoaiaaDoor
