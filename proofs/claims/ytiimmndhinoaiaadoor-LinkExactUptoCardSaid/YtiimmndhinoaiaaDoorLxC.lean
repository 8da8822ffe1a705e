/-
  does: a step on both lines: nothing, Lose, Twice, Put. Printed by genLxC.py.
-/
import Derived.Test.YtiimmndhinoaiaaDoorLxB
import Derived.Test.YtiimmndhinoaiaaDoorRegT
namespace Go.Proofs.YtiimmndhinoaiaaDoor
open Go.RowKit Go.Shelf
set_option linter.unusedVariables false
set_option linter.unusedSimpArgs false
attribute [local go_sem] Oper.semAt_some
/-- Operations a and b change memory, a first. -/
structure TwoP (w0 : World) (a b bb : Nat) (cc : Array Value) (ee : TypeId) (P1 P2 : World → Prop) (p : Nat → Prop) (f : Nat → Option Value) (W : World) : Prop where
  hb : Blk W bb cc ee
  s0 : ¬ p a → Fr [] w0 W
  s1 : p a → ¬ p b → P1 W
  s2 : p b → p a ∧ P2 W
section
variable {w0 W W' : World} {a b bb i : Nat} {cc : Array Value} {ee : TypeId} {P1 P2 : World → Prop} {p : Nat → Prop} {f g : Nat → Option Value}
theorem TwoP.start (h : Blk w0 bb cc ee) : TwoP w0 a b bb cc ee P1 P2 (fun _ => False) f w0.drew := ⟨h.drew, fun _ => (Fr.refl _ _).drew, fun h => h.elim, fun h => h.elim⟩
theorem TwoP.keep (h : TwoP w0 a b bb cc ee P1 P2 p f W) (ha : a ≠ i) (hb : b ≠ i) : TwoP w0 a b bb cc ee P1 P2 (fun k => p k ∨ k = i) g W :=
  ⟨h.hb, fun q => h.s0 (fun z => q (.inl z)), fun q r => h.s1 (q.resolve_right ha) (fun z => r (.inl z)), fun q => ⟨.inl (h.s2 (q.resolve_right hb)).1, (h.s2 (q.resolve_right hb)).2⟩⟩
theorem TwoP.one (h : TwoP w0 a b bb cc ee P1 P2 p f W) (hn : ¬ p a) (hab : b ≠ a) (hb : Blk W' bb cc ee) (hq : P1 W') : TwoP w0 a b bb cc ee P1 P2 (fun k => p k ∨ k = a) g W' :=
  ⟨hb, fun q => absurd (.inr rfl) q, fun _ _ => hq, fun q => absurd (h.s2 (q.resolve_right hab)).1 hn⟩
theorem TwoP.two (h : TwoP w0 a b bb cc ee P1 P2 p f W) (ha : p a) (hb : Blk W' bb cc ee) (hq : P2 W') : TwoP w0 a b bb cc ee P1 P2 (fun k => p k ∨ k = b) g W' :=
  ⟨hb, fun q => absurd (.inl ha) q, fun _ q => absurd (.inr rfl) q, fun _ => ⟨.inl ha, hq⟩⟩
theorem TwoP.grow (h : TwoP w0 a b bb cc ee P1 P2 p f W) (ha : a ≠ i) (hb : b ≠ i) (hf : Fr [] W W') (g1 : ∀ A B, Fr [] A B → P1 A → P1 B) (g2 : ∀ A B, Fr [] A B → P2 A → P2 B) : TwoP w0 a b bb cc ee P1 P2 (fun k => p k ∨ k = i) g W' :=
  ⟨hf.blk h.hb (by simp), fun q => (h.s0 (fun z => q (.inl z))).trans hf (by simp), fun q r => g1 _ _ hf (h.s1 (q.resolve_right ha) (fun z => r (.inl z))), fun q => ⟨.inl (h.s2 (q.resolve_right hb)).1, g2 _ _ hf (h.s2 (q.resolve_right hb)).2⟩⟩
end

section
variable {w w1 W W2 W3 : World} {b r n k most : Nat} {vl vr vl' vr' : Value} {V V' : List Int} {B B' : Bk}
theorem LK.mid (h : LK W b r vl vr V most B) (f : Fr (b :: vl.ownBlock.toList) W W2) : RAt W2 r vr V most B :=
  h.r.fr f (fun hm => by rcases List.mem_cons.1 hm with q | q; exact h.ne q.symm; exact h.r_vl q) (fun g hg hm => by rcases List.mem_cons.1 hm with q | q; (subst q; exact h.b_vr (by simp [hg])); exact h.v_v g hg q)
theorem LK.fin (hl : LnS.LineAt W2 b vl' (V'.map txt) most B') (hr0 : RAt W2 r vr V most B) (f : Fr [r] W2 W3) (hr : RAt W3 r vr' V' most B') : LK W3 b r vl' vr' V' most B' :=
  ⟨hl.fr f (fun hm => by simp at hm; exact Blk.ne hl.1 hr0.1 (by decide) hm) (fun g hg hm => own_notin hl.2 hr0.1 (by decide) (by simp at hm; subst hm; simp [hg])), hr⟩
theorem Mv.trans0 {v v' : Value} (h : Mv W v v') (hs : w.heap.size ≤ W.heap.size) : Mv w v v' := fun g hg => (h g hg).imp id (fun q => Nat.le_trans hs q)
/-- What a step leaves. -/
def DoesPost (w : World) (b r : Nat) (vl vr : Value) (n k most : Nat) (e : Ending) (w' : World) : Prop :=
  e = .returned (.bool true) ∧ ∃ vl' vr' V' B', LK w' b r vl' vr' V' most B' ∧ Fine n (k + 1) most V' B' ∧ Mv w vl vl' ∧ Mv w vr vr' ∧ Fr (b :: r :: vl.ownBlock.toList) w w'
/-- The line has gone on; both have. -/
def P1 (w1 : World) (b r : Nat) (vl : Value) (V' : List Int) (most : Nat) (B' : Bk) (W : World) : Prop := ∃ vl', LnS.LineAt W b vl' (V'.map txt) most B' ∧ Mv w1 vl vl' ∧ Fr (b :: vl.ownBlock.toList) w1 W
def P2 (w1 : World) (b r : Nat) (vl vr : Value) (V' : List Int) (most : Nat) (B' : Bk) (W : World) : Prop := ∃ vl' vr', LK W b r vl' vr' V' most B' ∧ Mv w1 vl vl' ∧ Mv w1 vr vr' ∧ Fr (b :: r :: vl.ownBlock.toList) w1 W
theorem P1.grow (f : Fr [] W W2) (h : P1 w1 b r vl V' most B' W) : P1 w1 b r vl V' most B' W2 := by
  obtain ⟨v, h1, h2, h3⟩ := h
  exact ⟨v, h1.fr f (by simp) (by simp), h2, h3.trans f (by simp)⟩
theorem P2.grow (f : Fr [] W W2) (h : P2 w1 b r vl vr V' most B' W) : P2 w1 b r vl vr V' most B' W2 := by
  obtain ⟨v, u, h1, h2, h3, h4⟩ := h
  exact ⟨v, u, h1.fr0 f, h2, h3, h4.trans f (by simp)⟩
theorem P1.of {res : Value} {e : Ending} (hl : LPost W b vl V' most B' res e W2) (f0 : Fr [] w1 W) : P1 w1 b r vl V' most B' W2 := by
  obtain ⟨-, v, h1, h2, h3⟩ := hl
  exact ⟨v, h1, h2.trans0 f0.size, (f0.mono (by simp)).trans h3 (fun x hx => .inl hx)⟩
theorem P2.of {res : Value} {e : Ending} (h : LK w1 b r vl vr V most B) (hp : P1 w1 b r vl V' most B' W) (hd : DPost W r vr V' most B' res e W2) : P2 w1 b r vl vr V' most B' W2 := by
  obtain ⟨v, h1, h2, h3⟩ := hp
  obtain ⟨-, u, g1, g2, g3⟩ := hd
  refine ⟨v, u, LK.fin h1 (h.mid h3) g3 g1, h2, g2.trans0 h3.size, (h3.mono (T := b :: r :: vl.ownBlock.toList) ?_).trans g3 ?_⟩
  · intro x hx; rcases List.mem_cons.1 hx with q | q
    · exact .inl (by simp [q])
    · exact .inl (List.mem_cons_of_mem _ (List.mem_cons_of_mem _ q))
  · intro x hx; simp at hx; exact .inl (by simp [hx])
theorem DoesPost.of (hp : P2 w1 b r vl vr V' most B' W) (hF : Fine n (k + 1) most V' B') (f1 : Fr [] w w1) : DoesPost w b r vl vr n k most (.returned (.bool true)) W := by
  obtain ⟨v, u, h1, h2, h3, h4⟩ := hp
  exact ⟨rfl, v, u, V', B', h1, hF, h2.trans0 f1.size, h3.trans0 f1.size, (f1.mono (by simp)).trans h4 (fun x hx => .inl hx)⟩
end
set_option maxRecDepth 100000 in
set_option maxHeartbeats 2000000 in
theorem does_else (w : World) (b r n k most : Nat) (vl vr : Value) (V : List Int) (B : Bk) (kd sv si : Int) (h : LK w b r vl vr V most B) (hF : Fine n k most V B) (hk : k ≤ 2097152) (h1 : 1 ≤ most) (hm : most ≤ 64) (hT : TB w) (hv : I64 sv) (e1 : kd ≠ 1) (e2 : kd ≠ 2) (e3 : kd ≠ 3) (e4 : kd ≠ 4) (e6 : kd ≠ 6) :
    Calls Tryd.prog 13 #[.pointer (some ⟨b, 0, none⟩), .pointer (some ⟨r, 0, none⟩), .agg #[.int .i64 kd, .int .i64 sv, .int .i64 si]] w (DoesPost w b r vl vr n k most) := by
  obtain ⟨w1, hw1⟩ : ∃ w1, w.alloc (.cells #[.int .i64 kd, .int .i64 sv, .int .i64 si] 39) = w1 := ⟨_, rfl⟩
  have F1 : Fr [] w w1 := by rw [← hw1]; exact (Fr.refl _ _).alloc _
  have hb : Blk w1 w.heap.size #[.int .i64 kd, .int .i64 sv, .int .i64 si] 39 := by rw [← hw1]; exact Blk.new w _ _
  have d0 := hb.at 0 (v := .int .i64 kd) rfl
  rw [← hw1] at d0
  have HS := Lib.hid (And.intro (h.fr0 F1) (And.intro F1 (hT.fr F1 (by simp))))
  have HQ := Lib.hid (And.intro hb hw1)
  have HLB := Lib.hid (show w.heap.size ∉ b :: vl.ownBlock.toList ∧ w.heap.size ∉ [r] from ⟨fun hm => by
      rcases List.mem_cons.1 hm with q | q
      · have := h.l.lt; omega
      · have := own_lt h.l.2 (by simpa using q); omega, fun hm => by simp at hm; have := h.r.lt; omega⟩)
  have HF := Lib.hid hF
  clear h F1 hb hw1 hF hT
  go_enter Tryd.func13, Tryd.ntmps13
  go_wp2_with fail
  obtain ⟨hb, hw1⟩ := HQ.out
  rw [hw1]
  refine bodyPost_ret (v := .bool true) (by simp [results, Tryd.results13, go_sem]) rfl ⟨rfl, vl, vr, V, B, HS.out.1, ?_, Mv.refl _ _, Mv.refl _ _, HS.out.2.1.mono (by simp)⟩
  obtain ⟨⟨b1, b2, b3, b4⟩, hs, hl, hi⟩ := HF.out
  exact ⟨⟨by omega, by omega, by omega, by omega⟩, hs, hl, hi⟩
set_option maxRecDepth 100000 in
set_option maxHeartbeats 2000000 in
theorem does_lose (w : World) (b r n k most : Nat) (vl vr : Value) (V : List Int) (B : Bk) (sv si : Int) (h : LK w b r vl vr V most B) (hF : Fine n k most V B) (hk : k ≤ 2097152) (h1 : 1 ≤ most) (hm : most ≤ 64) (hT : TB w) (hv : I64 sv) :
    Calls Tryd.prog 13 #[.pointer (some ⟨b, 0, none⟩), .pointer (some ⟨r, 0, none⟩), .agg #[.int .i64 3, .int .i64 sv, .int .i64 si]] w (DoesPost w b r vl vr n k most) := by
  obtain ⟨w1, hw1⟩ : ∃ w1, w.alloc (.cells #[.int .i64 3, .int .i64 sv, .int .i64 si] 39) = w1 := ⟨_, rfl⟩
  have F1 : Fr [] w w1 := by rw [← hw1]; exact (Fr.refl _ _).alloc _
  have hb : Blk w1 w.heap.size #[.int .i64 3, .int .i64 sv, .int .i64 si] 39 := by rw [← hw1]; exact Blk.new w _ _
  have d0 := hb.at 0 (v := .int .i64 3) rfl
  rw [← hw1] at d0
  have HS := Lib.hid (And.intro (h.fr0 F1) (And.intro F1 (hT.fr F1 (by simp))))
  have HQ := Lib.hid (And.intro hb hw1)
  have HLB := Lib.hid (show w.heap.size ∉ b :: vl.ownBlock.toList ∧ w.heap.size ∉ [r] from ⟨fun hm => by
      rcases List.mem_cons.1 hm with q | q
      · have := h.l.lt; omega
      · have := own_lt h.l.2 (by simpa using q); omega, fun hm => by simp at hm; have := h.r.lt; omega⟩)
  obtain ⟨a, x0, V2, B2, hF2, -, -, hL, hD⟩ := both_lose b r hF hk hm si
  have HB := Lib.hid (And.intro hL hD)
  have HF := Lib.hid hF2
  clear h F1 hb hw1 hL hD hF hF2 hT
  go_enter Tryd.func13, Tryd.ntmps13
  go_wp2_with fail
  obtain ⟨hb, hw1⟩ := HQ.out
  rw [hw1]
  obtain ⟨b5, hb5⟩ : ∃ b5, b5 = w.heap.size := ⟨_, rfl⟩
  rw [← hb5] at hb HLB ⊢
  clear hb5 hw1 HQ d0
  refine region_chg (by kernel_rfl) (by kernel_rfl) [some (.pointer (some ⟨b, 0, none⟩)), some (.pointer (some ⟨b5, 2, none⟩)), some (.int .i64 si), some (.bool a), some (.pointer (some ⟨r, 0, none⟩)), some (.pointer (some ⟨b5, 2, none⟩)), some (.int .i64 si), some (.bool a), some (.bool true), some (.bool true)] (TwoP w1 3 7 b5 #[.int .i64 3, .int .i64 sv, .int .i64 si] 39 (P1 w1 b r vl V2 most B2) (P2 w1 b r vl vr V2 most B2)) 82 rfl (by kernel_rfl) [(0, 52), (1, 53), (2, 54), (3, 55), (4, 56), (5, 57), (6, 58), (7, 59), (8, 60), (9, 6)] (by kernel_rfl) (TwoP.start hb) ?_ ?_
  · intro q a1 W1 i hi hnq hd hG K hK
    have hlt : i < 10 := hi
    have hc : i = 0 ∨ i = 1 ∨ i = 2 ∨ i = 3 ∨ i = 4 ∨ i = 5 ∨ i = 6 ∨ i = 7 ∨ i = 8 ∨ i = 9 := by omega
    have hΨ := hG.world
    rcases hc with rfl | rfl | rfl | rfl | rfl | rfl | rfl | rfl | rfl | rfl
    · have e0 := hG.old 0 (by kernel_rfl)
      refine op_doC rfl (wanted_none rfl) hK (fun K' hK' => ?_)
      unfold Oper.wp
      go_simp
      exact hK' _ _ (fun u hu => by cases hu; rfl) (hΨ.keep (by decide) (by decide))
    · have e5 := hG.old 5 (by kernel_rfl)
      refine op_doC rfl (wanted_none rfl) hK (fun K' hK' => ?_)
      unfold Oper.wp
      go_simp
      exact hK' _ _ (fun u hu => by cases hu; rfl) (hΨ.keep (by decide) (by decide))
    · have e53 := hG.val (v := .pointer (some ⟨b5, 2, none⟩)) 1 53 (hd _ rfl ⟨1, .data⟩ (by simp) rfl) rfl rfl
      have c2 := hΨ.hb.at 2 (v := .int .i64 si) rfl
      refine op_doC rfl (wanted_none rfl) hK (fun K' hK' => ?_)
      unfold Oper.wp
      go_simp
      exact hK' _ _ (fun u hu => by cases hu; rfl) (hΨ.keep (by decide) (by decide))
    · have e52 := hG.val (v := .pointer (some ⟨b, 0, none⟩)) 0 52 (hd _ rfl ⟨0, .data⟩ (by simp) rfl) rfl rfl
      have e54 := hG.val (v := .int .i64 si) 2 54 (hd _ rfl ⟨2, .data⟩ (by simp) rfl) rfl rfl
      refine op_doC rfl (wanted_none rfl) hK (fun K' hK' => ?_)
      unfold Oper.wp
      go_simp
      refine (HB.out.1 W1 vl ((HS.out.1.fr0 (hΨ.s0 hnq)).l)).mono ?_
      rintro e W2 hp
      have hp1 : P1 w1 b r vl V2 most B2 W2 := P1.of hp (hΨ.s0 hnq)
      obtain ⟨rfl, vl', -, -, f⟩ := hp
      exact hK' _ _ (fun u hu => by cases hu; rfl) (hΨ.one hnq (by decide) (f.blk hΨ.hb HLB.out.1) hp1)
    · have e1 := hG.old 1 (by kernel_rfl)
      refine op_doC rfl (wanted_none rfl) hK (fun K' hK' => ?_)
      unfold Oper.wp
      go_simp
      exact hK' _ _ (fun u hu => by cases hu; rfl) (hΨ.keep (by decide) (by decide))
    · have e5 := hG.old 5 (by kernel_rfl)
      refine op_doC rfl (wanted_none rfl) hK (fun K' hK' => ?_)
      unfold Oper.wp
      go_simp
      exact hK' _ _ (fun u hu => by cases hu; rfl) (hΨ.keep (by decide) (by decide))
    · have e57 := hG.val (v := .pointer (some ⟨b5, 2, none⟩)) 5 57 (hd _ rfl ⟨5, .data⟩ (by simp) rfl) rfl rfl
      have c2 := hΨ.hb.at 2 (v := .int .i64 si) rfl
      refine op_doC rfl (wanted_none rfl) hK (fun K' hK' => ?_)
      unfold Oper.wp
      go_simp
      exact hK' _ _ (fun u hu => by cases hu; rfl) (hΨ.keep (by decide) (by decide))
    · have e56 := hG.val (v := .pointer (some ⟨r, 0, none⟩)) 4 56 (hd _ rfl ⟨4, .data⟩ (by simp) rfl) rfl rfl
      have e58 := hG.val (v := .int .i64 si) 6 58 (hd _ rfl ⟨6, .data⟩ (by simp) rfl) rfl rfl
      refine op_doC rfl (wanted_none rfl) hK (fun K' hK' => ?_)
      unfold Oper.wp
      go_simp
      have q3 := hd _ rfl ⟨3, .chain⟩ (by simp) rfl
      have hp1 := hΨ.s1 q3 hnq
      have hp0 := hp1
      obtain ⟨vl1, hl1, -, f1⟩ := hp0
      refine (HB.out.2 W1 vr (HS.out.1.mid f1)).mono ?_
      rintro e W2 hp
      have hp2 : P2 w1 b r vl vr V2 most B2 W2 := P2.of HS.out.1 hp1 hp
      obtain ⟨rfl, vr', -, -, f⟩ := hp
      exact hK' _ _ (fun u hu => by cases hu; rfl) (hΨ.two q3 (f.blk hΨ.hb HLB.out.2) hp2)
    · have e55 := hG.val (v := .bool a) 3 55 (hd _ rfl ⟨3, .data⟩ (by simp) rfl) rfl rfl
      have e59 := hG.val (v := .bool a) 7 59 (hd _ rfl ⟨7, .data⟩ (by simp) rfl) rfl rfl
      refine op_doC rfl (wanted_none rfl) hK (fun K' hK' => ?_)
      unfold Oper.wp
      go_simp
      exact hK' _ _ (fun u hu => by cases hu; rfl) (hΨ.keep (by decide) (by decide))
    · have e60 := hG.val (v := .bool true) 8 60 (hd _ rfl ⟨8, .data⟩ (by simp) rfl) rfl rfl
      refine op_doC rfl (wanted_none rfl) hK (fun K' hK' => ?_)
      unfold Oper.wp
      go_simp
      exact hK' _ _ (fun u hu => by cases hu; rfl) (hΨ.keep (by decide) (by decide))
  · intro vs q W1 hq hΨ hv
    have r0 : vs 0 = .pointer (some ⟨b, 0, none⟩) := hv 0 52 _ (by decide) rfl rfl
    have r1 : vs 1 = .pointer (some ⟨b5, 2, none⟩) := hv 1 53 _ (by decide) rfl rfl
    have r2 : vs 2 = .int .i64 si := hv 2 54 _ (by decide) rfl rfl
    have r3 : vs 3 = .bool a := hv 3 55 _ (by decide) rfl rfl
    have r4 : vs 4 = .pointer (some ⟨r, 0, none⟩) := hv 4 56 _ (by decide) rfl rfl
    have r5 : vs 5 = .pointer (some ⟨b5, 2, none⟩) := hv 5 57 _ (by decide) rfl rfl
    have r6 : vs 6 = .int .i64 si := hv 6 58 _ (by decide) rfl rfl
    have r7 : vs 7 = .bool a := hv 7 59 _ (by decide) rfl rfl
    have r8 : vs 8 = .bool true := hv 8 60 _ (by decide) rfl rfl
    have r9 : vs 9 = .bool true := hv 9 6 _ (by decide) rfl rfl
    simp only [lay, List.foldl_cons, List.foldl_nil, r0, r1, r2, r3, r4, r5, r6, r7, r8, r9] at hΨ ⊢
    simp only [List.setIfInBounds_toArray, List.set_cons_zero, List.set_cons_succ] at hΨ ⊢
    clear hv r0 r1 r2 r3 r4 r5 r6 r7 r8 r9
    obtain ⟨-, hp2⟩ := hΨ.s2 (hq 7 (by decide))
    go_wp2_with fail
    exact bodyPost_ret (v := .bool true) (by simp [results, Tryd.results13, go_sem]) rfl (DoesPost.of hp2 HF.out HS.out.2.1)
set_option maxRecDepth 100000 in
set_option maxHeartbeats 2000000 in
theorem does_twice (w : World) (b r n k most : Nat) (vl vr : Value) (V : List Int) (B : Bk) (sv si : Int) (h : LK w b r vl vr V most B) (hF : Fine n k most V B) (hk : k ≤ 2097152) (h1 : 1 ≤ most) (hm : most ≤ 64) (hT : TB w) (hv : I64 sv) :
    Calls Tryd.prog 13 #[.pointer (some ⟨b, 0, none⟩), .pointer (some ⟨r, 0, none⟩), .agg #[.int .i64 4, .int .i64 sv, .int .i64 si]] w (DoesPost w b r vl vr n k most) := by
  obtain ⟨w1, hw1⟩ : ∃ w1, w.alloc (.cells #[.int .i64 4, .int .i64 sv, .int .i64 si] 39) = w1 := ⟨_, rfl⟩
  have F1 : Fr [] w w1 := by rw [← hw1]; exact (Fr.refl _ _).alloc _
  have hb : Blk w1 w.heap.size #[.int .i64 4, .int .i64 sv, .int .i64 si] 39 := by rw [← hw1]; exact Blk.new w _ _
  have d0 := hb.at 0 (v := .int .i64 4) rfl
  rw [← hw1] at d0
  have HS := Lib.hid (And.intro (h.fr0 F1) (And.intro F1 (hT.fr F1 (by simp))))
  have HQ := Lib.hid (And.intro hb hw1)
  have HLB := Lib.hid (show w.heap.size ∉ b :: vl.ownBlock.toList ∧ w.heap.size ∉ [r] from ⟨fun hm => by
      rcases List.mem_cons.1 hm with q | q
      · have := h.l.lt; omega
      · have := own_lt h.l.2 (by simpa using q); omega, fun hm => by simp at hm; have := h.r.lt; omega⟩)
  obtain ⟨a, V2, B2, hF2, hL, hD⟩ := both_twice b r hF hk hm si
  have HB := Lib.hid (And.intro hL hD)
  have HF := Lib.hid hF2
  clear h F1 hb hw1 hL hD hF hF2 hT
  go_enter Tryd.func13, Tryd.ntmps13
  go_wp2_with fail
  obtain ⟨hb, hw1⟩ := HQ.out
  rw [hw1]
  obtain ⟨b5, hb5⟩ : ∃ b5, b5 = w.heap.size := ⟨_, rfl⟩
  rw [← hb5] at hb HLB ⊢
  clear hb5 hw1 HQ d0
  refine region_chg (by kernel_rfl) (by kernel_rfl) [some (.pointer (some ⟨b, 0, none⟩)), some (.pointer (some ⟨b5, 2, none⟩)), some (.int .i64 si), some (.bool a), some (.pointer (some ⟨r, 0, none⟩)), some (.pointer (some ⟨b5, 2, none⟩)), some (.int .i64 si), some (.bool a), some (.bool true), some (.bool true)] (TwoP w1 3 7 b5 #[.int .i64 4, .int .i64 sv, .int .i64 si] 39 (P1 w1 b r vl V2 most B2) (P2 w1 b r vl vr V2 most B2)) 82 rfl (by kernel_rfl) [(0, 63), (1, 64), (2, 65), (3, 66), (4, 67), (5, 68), (6, 69), (7, 70), (8, 71), (9, 6)] (by kernel_rfl) (TwoP.start hb) ?_ ?_
  · intro q a1 W1 i hi hnq hd hG K hK
    have hlt : i < 10 := hi
    have hc : i = 0 ∨ i = 1 ∨ i = 2 ∨ i = 3 ∨ i = 4 ∨ i = 5 ∨ i = 6 ∨ i = 7 ∨ i = 8 ∨ i = 9 := by omega
    have hΨ := hG.world
    rcases hc with rfl | rfl | rfl | rfl | rfl | rfl | rfl | rfl | rfl | rfl
    · have e0 := hG.old 0 (by kernel_rfl)
      refine op_doC rfl (wanted_none rfl) hK (fun K' hK' => ?_)
      unfold Oper.wp
      go_simp
      exact hK' _ _ (fun u hu => by cases hu; rfl) (hΨ.keep (by decide) (by decide))
    · have e5 := hG.old 5 (by kernel_rfl)
      refine op_doC rfl (wanted_none rfl) hK (fun K' hK' => ?_)
      unfold Oper.wp
      go_simp
      exact hK' _ _ (fun u hu => by cases hu; rfl) (hΨ.keep (by decide) (by decide))
    · have e64 := hG.val (v := .pointer (some ⟨b5, 2, none⟩)) 1 64 (hd _ rfl ⟨1, .data⟩ (by simp) rfl) rfl rfl
      have c2 := hΨ.hb.at 2 (v := .int .i64 si) rfl
      refine op_doC rfl (wanted_none rfl) hK (fun K' hK' => ?_)
      unfold Oper.wp
      go_simp
      exact hK' _ _ (fun u hu => by cases hu; rfl) (hΨ.keep (by decide) (by decide))
    · have e63 := hG.val (v := .pointer (some ⟨b, 0, none⟩)) 0 63 (hd _ rfl ⟨0, .data⟩ (by simp) rfl) rfl rfl
      have e65 := hG.val (v := .int .i64 si) 2 65 (hd _ rfl ⟨2, .data⟩ (by simp) rfl) rfl rfl
      refine op_doC rfl (wanted_none rfl) hK (fun K' hK' => ?_)
      unfold Oper.wp
      go_simp
      refine (HB.out.1 W1 vl ((HS.out.1.fr0 (hΨ.s0 hnq)).l)).mono ?_
      rintro e W2 hp
      have hp1 : P1 w1 b r vl V2 most B2 W2 := P1.of hp (hΨ.s0 hnq)
      obtain ⟨rfl, vl', -, -, f⟩ := hp
      exact hK' _ _ (fun u hu => by cases hu; rfl) (hΨ.one hnq (by decide) (f.blk hΨ.hb HLB.out.1) hp1)
    · have e1 := hG.old 1 (by kernel_rfl)
      refine op_doC rfl (wanted_none rfl) hK (fun K' hK' => ?_)
      unfold Oper.wp
      go_simp
      exact hK' _ _ (fun u hu => by cases hu; rfl) (hΨ.keep (by decide) (by decide))
    · have e5 := hG.old 5 (by kernel_rfl)
      refine op_doC rfl (wanted_none rfl) hK (fun K' hK' => ?_)
      unfold Oper.wp
      go_simp
      exact hK' _ _ (fun u hu => by cases hu; rfl) (hΨ.keep (by decide) (by decide))
    · have e68 := hG.val (v := .pointer (some ⟨b5, 2, none⟩)) 5 68 (hd _ rfl ⟨5, .data⟩ (by simp) rfl) rfl rfl
      have c2 := hΨ.hb.at 2 (v := .int .i64 si) rfl
      refine op_doC rfl (wanted_none rfl) hK (fun K' hK' => ?_)
      unfold Oper.wp
      go_simp
      exact hK' _ _ (fun u hu => by cases hu; rfl) (hΨ.keep (by decide) (by decide))
    · have e67 := hG.val (v := .pointer (some ⟨r, 0, none⟩)) 4 67 (hd _ rfl ⟨4, .data⟩ (by simp) rfl) rfl rfl
      have e69 := hG.val (v := .int .i64 si) 6 69 (hd _ rfl ⟨6, .data⟩ (by simp) rfl) rfl rfl
      refine op_doC rfl (wanted_none rfl) hK (fun K' hK' => ?_)
      unfold Oper.wp
      go_simp
      have q3 := hd _ rfl ⟨3, .chain⟩ (by simp) rfl
      have hp1 := hΨ.s1 q3 hnq
      have hp0 := hp1
      obtain ⟨vl1, hl1, -, f1⟩ := hp0
      refine (HB.out.2 W1 vr (HS.out.1.mid f1)).mono ?_
      rintro e W2 hp
      have hp2 : P2 w1 b r vl vr V2 most B2 W2 := P2.of HS.out.1 hp1 hp
      obtain ⟨rfl, vr', -, -, f⟩ := hp
      exact hK' _ _ (fun u hu => by cases hu; rfl) (hΨ.two q3 (f.blk hΨ.hb HLB.out.2) hp2)
    · have e66 := hG.val (v := .bool a) 3 66 (hd _ rfl ⟨3, .data⟩ (by simp) rfl) rfl rfl
      have e70 := hG.val (v := .bool a) 7 70 (hd _ rfl ⟨7, .data⟩ (by simp) rfl) rfl rfl
      refine op_doC rfl (wanted_none rfl) hK (fun K' hK' => ?_)
      unfold Oper.wp
      go_simp
      exact hK' _ _ (fun u hu => by cases hu; rfl) (hΨ.keep (by decide) (by decide))
    · have e71 := hG.val (v := .bool true) 8 71 (hd _ rfl ⟨8, .data⟩ (by simp) rfl) rfl rfl
      refine op_doC rfl (wanted_none rfl) hK (fun K' hK' => ?_)
      unfold Oper.wp
      go_simp
      exact hK' _ _ (fun u hu => by cases hu; rfl) (hΨ.keep (by decide) (by decide))
  · intro vs q W1 hq hΨ hv
    have r0 : vs 0 = .pointer (some ⟨b, 0, none⟩) := hv 0 63 _ (by decide) rfl rfl
    have r1 : vs 1 = .pointer (some ⟨b5, 2, none⟩) := hv 1 64 _ (by decide) rfl rfl
    have r2 : vs 2 = .int .i64 si := hv 2 65 _ (by decide) rfl rfl
    have r3 : vs 3 = .bool a := hv 3 66 _ (by decide) rfl rfl
    have r4 : vs 4 = .pointer (some ⟨r, 0, none⟩) := hv 4 67 _ (by decide) rfl rfl
    have r5 : vs 5 = .pointer (some ⟨b5, 2, none⟩) := hv 5 68 _ (by decide) rfl rfl
    have r6 : vs 6 = .int .i64 si := hv 6 69 _ (by decide) rfl rfl
    have r7 : vs 7 = .bool a := hv 7 70 _ (by decide) rfl rfl
    have r8 : vs 8 = .bool true := hv 8 71 _ (by decide) rfl rfl
    have r9 : vs 9 = .bool true := hv 9 6 _ (by decide) rfl rfl
    simp only [lay, List.foldl_cons, List.foldl_nil, r0, r1, r2, r3, r4, r5, r6, r7, r8, r9] at hΨ ⊢
    simp only [List.setIfInBounds_toArray, List.set_cons_zero, List.set_cons_succ] at hΨ ⊢
    clear hv r0 r1 r2 r3 r4 r5 r6 r7 r8 r9
    obtain ⟨-, hp2⟩ := hΨ.s2 (hq 7 (by decide))
    go_wp2_with fail
    exact bodyPost_ret (v := .bool true) (by simp [results, Tryd.results13, go_sem]) rfl (DoesPost.of hp2 HF.out HS.out.2.1)
set_option maxRecDepth 100000 in
set_option maxHeartbeats 2000000 in
theorem does_put (w : World) (b r n k most : Nat) (vl vr : Value) (V : List Int) (B : Bk) (sv si : Int) (h : LK w b r vl vr V most B) (hF : Fine n k most V B) (hk : k ≤ 2097152) (h1 : 1 ≤ most) (hm : most ≤ 64) (hT : TB w) (hv : I64 sv) :
    Calls Tryd.prog 13 #[.pointer (some ⟨b, 0, none⟩), .pointer (some ⟨r, 0, none⟩), .agg #[.int .i64 1, .int .i64 sv, .int .i64 si]] w (DoesPost w b r vl vr n k most) := by
  obtain ⟨w1, hw1⟩ : ∃ w1, w.alloc (.cells #[.int .i64 1, .int .i64 sv, .int .i64 si] 39) = w1 := ⟨_, rfl⟩
  have F1 : Fr [] w w1 := by rw [← hw1]; exact (Fr.refl _ _).alloc _
  have hb : Blk w1 w.heap.size #[.int .i64 1, .int .i64 sv, .int .i64 si] 39 := by rw [← hw1]; exact Blk.new w _ _
  have d0 := hb.at 0 (v := .int .i64 1) rfl
  rw [← hw1] at d0
  have HS := Lib.hid (And.intro (h.fr0 F1) (And.intro F1 (hT.fr F1 (by simp))))
  have HQ := Lib.hid (And.intro hb hw1)
  have HLB := Lib.hid (show w.heap.size ∉ b :: vl.ownBlock.toList ∧ w.heap.size ∉ [r] from ⟨fun hm => by
      rcases List.mem_cons.1 hm with q | q
      · have := h.l.lt; omega
      · have := own_lt h.l.2 (by simpa using q); omega, fun hm => by simp at hm; have := h.r.lt; omega⟩)
  obtain ⟨a, V2, B2, hF2, hL, hD⟩ := both_put b r hF hk h1 hm sv hv
  have HTX := Lib.hid (fun W hW => text_any W sv hv hW)
  obtain ⟨s, hs⟩ : ∃ s, s = txt sv := ⟨_, rfl⟩
  rw [← hs] at HTX hL
  clear hs
  have HB := Lib.hid (And.intro hL hD)
  have HF := Lib.hid hF2
  clear h F1 hb hw1 hL hD hF hF2 hT
  go_enter Tryd.func13, Tryd.ntmps13
  go_wp2_with fail
  obtain ⟨hb, hw1⟩ := HQ.out
  rw [hw1]
  obtain ⟨b5, hb5⟩ : ∃ b5, b5 = w.heap.size := ⟨_, rfl⟩
  rw [← hb5] at hb HLB ⊢
  clear hb5 hw1 HQ d0
  refine region_chg (by kernel_rfl) (by kernel_rfl) [some (.pointer (some ⟨b, 0, none⟩)), some (.pointer (some ⟨b5, 1, none⟩)), some (.int .i64 sv), some (.string s), some (.bool a), some (.pointer (some ⟨r, 0, none⟩)), some (.pointer (some ⟨b5, 1, none⟩)), some (.int .i64 sv), some (.bool a), some (.bool true), some (.bool true)] (TwoP w1 4 8 b5 #[.int .i64 1, .int .i64 sv, .int .i64 si] 39 (P1 w1 b r vl V2 most B2) (P2 w1 b r vl vr V2 most B2)) 82 rfl (by kernel_rfl) [(0, 15), (1, 16), (2, 17), (3, 18), (4, 19), (5, 20), (6, 21), (7, 22), (8, 23), (9, 24), (10, 6)] (by kernel_rfl) (TwoP.start hb) ?_ ?_
  · intro q a1 W1 i hi hnq hd hG K hK
    have hlt : i < 11 := hi
    have hc : i = 0 ∨ i = 1 ∨ i = 2 ∨ i = 3 ∨ i = 4 ∨ i = 5 ∨ i = 6 ∨ i = 7 ∨ i = 8 ∨ i = 9 ∨ i = 10 := by omega
    have hΨ := hG.world
    rcases hc with rfl | rfl | rfl | rfl | rfl | rfl | rfl | rfl | rfl | rfl | rfl
    · have e0 := hG.old 0 (by kernel_rfl)
      refine op_doC rfl (wanted_none rfl) hK (fun K' hK' => ?_)
      unfold Oper.wp
      go_simp
      exact hK' _ _ (fun u hu => by cases hu; rfl) (hΨ.keep (by decide) (by decide))
    · have e5 := hG.old 5 (by kernel_rfl)
      refine op_doC rfl (wanted_none rfl) hK (fun K' hK' => ?_)
      unfold Oper.wp
      go_simp
      exact hK' _ _ (fun u hu => by cases hu; rfl) (hΨ.keep (by decide) (by decide))
    · have e16 := hG.val (v := .pointer (some ⟨b5, 1, none⟩)) 1 16 (hd _ rfl ⟨1, .data⟩ (by simp) rfl) rfl rfl
      have c2 := hΨ.hb.at 1 (v := .int .i64 sv) rfl
      refine op_doC rfl (wanted_none rfl) hK (fun K' hK' => ?_)
      unfold Oper.wp
      go_simp
      exact hK' _ _ (fun u hu => by cases hu; rfl) (hΨ.keep (by decide) (by decide))
    · have e17 := hG.val (v := .int .i64 sv) 2 17 (hd _ rfl ⟨2, .data⟩ (by simp) rfl) rfl rfl
      refine op_doC rfl (wanted_none rfl) hK (fun K' hK' => ?_)
      unfold Oper.wp
      go_simp
      have hn4 : ¬ q 4 := fun h => hnq (hG.closed 4 h _ rfl ⟨3, .data⟩ (by simp) rfl)
      refine (HTX.out W1 (HS.out.2.2.fr (hΨ.s0 hn4) (by simp))).mono ?_
      rintro e W2 ⟨rfl, f⟩
      exact hK' _ _ (fun u hu => by cases hu; rfl) (hΨ.grow (by decide) (by decide) f (fun _ _ => P1.grow) (fun _ _ => P2.grow))
    · have e15 := hG.val (v := .pointer (some ⟨b, 0, none⟩)) 0 15 (hd _ rfl ⟨0, .data⟩ (by simp) rfl) rfl rfl
      have e18 := hG.val (v := .string s) 3 18 (hd _ rfl ⟨3, .data⟩ (by simp) rfl) rfl rfl
      refine op_doC rfl (wanted_none rfl) hK (fun K' hK' => ?_)
      unfold Oper.wp
      go_simp
      refine (HB.out.1 W1 vl ((HS.out.1.fr0 (hΨ.s0 hnq)).l)).mono ?_
      rintro e W2 hp
      have hp1 : P1 w1 b r vl V2 most B2 W2 := P1.of hp (hΨ.s0 hnq)
      obtain ⟨rfl, vl', -, -, f⟩ := hp
      exact hK' _ _ (fun u hu => by cases hu; rfl) (hΨ.one hnq (by decide) (f.blk hΨ.hb HLB.out.1) hp1)
    · have e1 := hG.old 1 (by kernel_rfl)
      refine op_doC rfl (wanted_none rfl) hK (fun K' hK' => ?_)
      unfold Oper.wp
      go_simp
      exact hK' _ _ (fun u hu => by cases hu; rfl) (hΨ.keep (by decide) (by decide))
    · have e5 := hG.old 5 (by kernel_rfl)
      refine op_doC rfl (wanted_none rfl) hK (fun K' hK' => ?_)
      unfold Oper.wp
      go_simp
      exact hK' _ _ (fun u hu => by cases hu; rfl) (hΨ.keep (by decide) (by decide))
    · have e21 := hG.val (v := .pointer (some ⟨b5, 1, none⟩)) 6 21 (hd _ rfl ⟨6, .data⟩ (by simp) rfl) rfl rfl
      have c2 := hΨ.hb.at 1 (v := .int .i64 sv) rfl
      refine op_doC rfl (wanted_none rfl) hK (fun K' hK' => ?_)
      unfold Oper.wp
      go_simp
      exact hK' _ _ (fun u hu => by cases hu; rfl) (hΨ.keep (by decide) (by decide))
    · have e20 := hG.val (v := .pointer (some ⟨r, 0, none⟩)) 5 20 (hd _ rfl ⟨5, .data⟩ (by simp) rfl) rfl rfl
      have e22 := hG.val (v := .int .i64 sv) 7 22 (hd _ rfl ⟨7, .data⟩ (by simp) rfl) rfl rfl
      refine op_doC rfl (wanted_none rfl) hK (fun K' hK' => ?_)
      unfold Oper.wp
      go_simp
      have q3 := hd _ rfl ⟨4, .chain⟩ (by simp) rfl
      have hp1 := hΨ.s1 q3 hnq
      have hp0 := hp1
      obtain ⟨vl1, hl1, -, f1⟩ := hp0
      refine (HB.out.2 W1 vr (HS.out.1.mid f1)).mono ?_
      rintro e W2 hp
      have hp2 : P2 w1 b r vl vr V2 most B2 W2 := P2.of HS.out.1 hp1 hp
      obtain ⟨rfl, vr', -, -, f⟩ := hp
      exact hK' _ _ (fun u hu => by cases hu; rfl) (hΨ.two q3 (f.blk hΨ.hb HLB.out.2) hp2)
    · have e19 := hG.val (v := .bool a) 4 19 (hd _ rfl ⟨4, .data⟩ (by simp) rfl) rfl rfl
      have e23 := hG.val (v := .bool a) 8 23 (hd _ rfl ⟨8, .data⟩ (by simp) rfl) rfl rfl
      refine op_doC rfl (wanted_none rfl) hK (fun K' hK' => ?_)
      unfold Oper.wp
      go_simp
      exact hK' _ _ (fun u hu => by cases hu; rfl) (hΨ.keep (by decide) (by decide))
    · have e24 := hG.val (v := .bool true) 9 24 (hd _ rfl ⟨9, .data⟩ (by simp) rfl) rfl rfl
      refine op_doC rfl (wanted_none rfl) hK (fun K' hK' => ?_)
      unfold Oper.wp
      go_simp
      exact hK' _ _ (fun u hu => by cases hu; rfl) (hΨ.keep (by decide) (by decide))
  · intro vs q W1 hq hΨ hv
    have r0 : vs 0 = .pointer (some ⟨b, 0, none⟩) := hv 0 15 _ (by decide) rfl rfl
    have r1 : vs 1 = .pointer (some ⟨b5, 1, none⟩) := hv 1 16 _ (by decide) rfl rfl
    have r2 : vs 2 = .int .i64 sv := hv 2 17 _ (by decide) rfl rfl
    have r3 : vs 3 = .string s := hv 3 18 _ (by decide) rfl rfl
    have r4 : vs 4 = .bool a := hv 4 19 _ (by decide) rfl rfl
    have r5 : vs 5 = .pointer (some ⟨r, 0, none⟩) := hv 5 20 _ (by decide) rfl rfl
    have r6 : vs 6 = .pointer (some ⟨b5, 1, none⟩) := hv 6 21 _ (by decide) rfl rfl
    have r7 : vs 7 = .int .i64 sv := hv 7 22 _ (by decide) rfl rfl
    have r8 : vs 8 = .bool a := hv 8 23 _ (by decide) rfl rfl
    have r9 : vs 9 = .bool true := hv 9 24 _ (by decide) rfl rfl
    have r10 : vs 10 = .bool true := hv 10 6 _ (by decide) rfl rfl
    simp only [lay, List.foldl_cons, List.foldl_nil, r0, r1, r2, r3, r4, r5, r6, r7, r8, r9, r10] at hΨ ⊢
    simp only [List.setIfInBounds_toArray, List.set_cons_zero, List.set_cons_succ] at hΨ ⊢
    clear hv r0 r1 r2 r3 r4 r5 r6 r7 r8 r9 r10
    obtain ⟨-, hp2⟩ := hΨ.s2 (hq 8 (by decide))
    go_wp2_with fail
    exact bodyPost_ret (v := .bool true) (by simp [results, Tryd.results13, go_sem]) rfl (DoesPost.of hp2 HF.out HS.out.2.1)
end Go.Proofs.YtiimmndhinoaiaaDoor
