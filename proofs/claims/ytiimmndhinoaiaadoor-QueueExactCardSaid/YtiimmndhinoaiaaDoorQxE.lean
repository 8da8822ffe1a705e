/-
  QueueExact: does: All and Set; any step. Printed by genQx.py.
-/
import Derived.Test.YtiimmndhinoaiaaDoorQxD
import Derived.Test.YtiimmndhinoaiaaDoorRegI
namespace Go.Proofs.YtiimmndhinoaiaaDoor
open Go.RowKit Go.Shelf ring
set_option linter.unusedVariables false
set_option linter.unusedSimpArgs false
attribute [local go_sem] Oper.semAt_some
namespace Qu
/-- Operations a and b change memory, a first. -/
structure TwoP (w0 : World) (a b bb : Nat) (cc : Array Value) (ee : TypeId) (P1 P2 : World → Prop) (p : Nat → Prop) (f : Nat → Option Value) (W : World) : Prop where
  hb : Blk W bb cc ee
  s0 : ¬ p a → Fr [] w0 W
  s1 : p a → ¬ p b → P1 W
  s2 : p b → p a ∧ P2 W
section
variable {w0 W W' : World} {a b bb i : Nat} {cc : Array Value} {ee : TypeId} {P1 P2 : World → Prop} {p : Nat → Prop} {f g : Nat → Option Value}
theorem TwoP.start (h : Blk w0 bb cc ee) : TwoP w0 a b bb cc ee P1 P2 (fun _ => False) f w0.drew := ⟨h.drew, fun _ => (Fr.refl _ _).drew, fun h => h.elim, fun h => h.elim⟩
theorem TwoP.keep (h : TwoP w0 a b bb cc ee P1 P2 p f W) (ha : a ≠ i) (hb : b ≠ i) : TwoP w0 a b bb cc ee P1 P2 (fun k => p k ∨ k = i) g W :=
  ⟨h.hb, fun q => h.s0 (fun z => q (.inl z)), fun q r => h.s1 (q.resolve_right ha) (fun z => r (.inl z)), fun q => ⟨.inl (h.s2 (q.resolve_right hb)).1, (h.s2 (q.resolve_right hb)).2⟩⟩
theorem TwoP.one (h : TwoP w0 a b bb cc ee P1 P2 p f W) (hn : ¬ p a) (hab : b ≠ a) (hb : Blk W' bb cc ee) (hq : P1 W') : TwoP w0 a b bb cc ee P1 P2 (fun k => p k ∨ k = a) g W' :=
  ⟨hb, fun q => absurd (.inr rfl) q, fun _ _ => hq, fun q => absurd (h.s2 (q.resolve_right hab)).1 hn⟩
theorem TwoP.two (h : TwoP w0 a b bb cc ee P1 P2 p f W) (ha : p a) (hb : Blk W' bb cc ee) (hq : P2 W') : TwoP w0 a b bb cc ee P1 P2 (fun k => p k ∨ k = b) g W' :=
  ⟨hb, fun q => absurd (.inl ha) q, fun _ q => absurd (.inr rfl) q, fun _ => ⟨.inl ha, hq⟩⟩
theorem TwoP.grow (h : TwoP w0 a b bb cc ee P1 P2 p f W) (ha : a ≠ i) (hb : b ≠ i) (hf : Fr [] W W') (g1 : ∀ A B, Fr [] A B → P1 A → P1 B) (g2 : ∀ A B, Fr [] A B → P2 A → P2 B) : TwoP w0 a b bb cc ee P1 P2 (fun k => p k ∨ k = i) g W' :=
  ⟨hf.blk h.hb (by simp), fun q => (h.s0 (fun z => q (.inl z))).trans hf (by simp), fun q r => g1 _ _ hf (h.s1 (q.resolve_right ha) (fun z => r (.inl z))), fun q => ⟨.inl (h.s2 (q.resolve_right hb)).1, g2 _ _ hf (h.s2 (q.resolve_right hb)).2⟩⟩
end

attribute [local go_sem ↓] newVar65
attribute [local go_sem] pr_layPr_same can_new run_storePr0 run_newPr run_newPr'
theorem held_fr0 {k : Nat} {v : Value} {L : List ByteArray} {W W' : World} (h : RgS.AllHeld k v L W) (f : Fr [] W W') : RgS.AllHeld k v L W' := h.fr f (by simp) (by simp)
/-- An iterator that was taken; beside what it is to tell; a list of one. -/
def Stab.allQ (n0 : Nat) (L : List ByteArray) : Stab := ⟨fun u W => ∃ kb vx, u = .func (.func 50) #[] #[.pointer (some ⟨kb, 0, none⟩)] ∧ RgS.AllHeld kb vx L W ∧ n0 ≤ kb ∧ ∀ g, vx.ownBlock = some g → n0 ≤ g, fun u W W' f ⟨kb, vx, h, hA, hn⟩ => ⟨kb, vx, h, held_fr0 hA f, hn⟩⟩
def Stab.keptQ (n0 : Nat) (L : List ByteArray) (x : Value) : Stab := ⟨fun u W => ∃ kb vx, u = .agg #[.func (.func 50) #[] #[.pointer (some ⟨kb, 0, none⟩)], x] ∧ RgS.AllHeld kb vx L W ∧ n0 ≤ kb ∧ ∀ g, vx.ownBlock = some g → n0 ≤ g, fun u W W' f ⟨kb, vx, h, hA, hn⟩ => ⟨kb, vx, h, held_fr0 hA f, hn⟩⟩
set_option maxRecDepth 100000 in
set_option maxHeartbeats 4000000 in
theorem qdoes_all (w : World) (b g c d r k : Nat) (vr : Value) (V : List Int) (M : RM) (on sv si : Int) (h : TQ w b g c d r vr V M) (hF : FineQ k V M) (hk : k ≤ 4398046511104) (hT : TB w) (hv : I64 sv) (hz0 : 0 ∉ [b, g, c, d, r]) :
    Calls Tryd.prog 23 #[.pointer (some ⟨b, 0, none⟩), .pointer (some ⟨c, 0, none⟩), .pointer (some ⟨r, 0, none⟩), .agg #[.int .i64 9, .int .i64 on, .int .i64 sv, .int .i64 si]] w (QDoes w b g c d r vr k) := by
  obtain ⟨bs, hbs⟩ : ∃ bs, bs = w.heap.size := ⟨_, rfl⟩
  obtain ⟨w1, hw1⟩ : ∃ w1, (w.alloc (.cells #[.int .i64 9, .int .i64 on, .int .i64 sv, .int .i64 si] 69)).alloc (.cells #[.int .i64 0, .float .f64 0] 65) = w1 := ⟨_, rfl⟩
  have F1 : Fr [] w w1 := by rw [← hw1]; exact ((Fr.refl _ _).alloc _).alloc _
  have hb : Blk w1 bs #[.int .i64 9, .int .i64 on, .int .i64 sv, .int .i64 si] 69 := by rw [← hw1, hbs]; exact (Blk.new w _ _).alloc _
  have hzb : Blk w1 (bs + 1) (pcells 0).toArray 65 := by rw [← hw1, hbs]; exact Blk.new_at (by simp) _ _
  have d0 := hb.at 0 (v := .int .i64 9) rfl
  have d2 := hb.at 2 (v := .int .i64 sv) rfl
  have d3 := hb.at 3 (v := .int .i64 si) rfl
  have hTQ := h.fr0 F1
  have hlts := h.lts
  have HS := Lib.hid (And.intro hTQ (And.intro F1 (And.intro (hT.fr F1 (by simp)) hz0)))
  have HQ := Lib.hid (And.intro hb (And.intro hzb (show bs + 1 ∉ [b, g, c, d, r] ∧ bs ∉ [b, g, c, d, r] ∧ bs + 1 ∉ vr.ownBlock.toList from ⟨fun hm => by have := hlts _ hm; omega, fun hm => by have := hlts _ hm; omega, fun hm => by have := own_lt h.r.own (by simpa using hm); omega⟩)))
  obtain ⟨pr, cr, rfl, -, -, -⟩ := h.r.form
  have HV := Lib.hid (show V.length ≤ 65536 by have := h.len; omega)
  have HFI := Lib.hid hF
  clear hF
  have HW1 := Lib.hid hw1
  have HBS := Lib.hid hbs
  clear h F1 hb hzb hTQ hlts hT hz0 hw1 hbs
  go_enter Tryd.func23, Tryd.ntmps23
  go_upto_region 5 with fail
  rw [HW1.out]
  simp only [← HBS.out]
  clear HW1
  go_wp2_with fail
  clear d0 d2 d3
  refine region_grow (by kernel_rfl) (by kernel_rfl) [.is (.pointer (some ⟨b, 0, none⟩)), Stab.allQ w1.heap.size (V.map qtx), .is (.pointer (some ⟨r, 0, none⟩)), .is (.pointer (some ⟨r, 0, none⟩)), .is (.pointer (some ⟨r, 0, none⟩)), .is (.slice pr V.length cr), Stab.keptQ w1.heap.size (V.map qtx) (.slice pr V.length cr), .is (.bool true), .is (.bool true)] 216 rfl (by kernel_rfl) [(0, 188), (1, 189), (2, 190), (3, 191), (4, 192), (5, 193), (6, 194), (7, 195), (8, 8)] (by kernel_rfl) ?_ ?_
  · intro q a1 W1 i hi hnq hd hG K hK
    have hlt : i < 9 := hi
    have hc : i = 0 ∨ i = 1 ∨ i = 2 ∨ i = 3 ∨ i = 4 ∨ i = 5 ∨ i = 6 ∨ i = 7 ∨ i = 8 := by omega
    rcases hc with rfl | rfl | rfl | rfl | rfl | rfl | rfl | rfl | rfl
    · have e0 := hG.old 0 (by kernel_rfl)
      refine op_do rfl (wanted_none rfl) hK (fun K' hK' => ?_)
      unfold Oper.wp
      go_simp
      exact hK' _ _ (Fr.refl _ _) rfl
    · have e188 := hG.val (v := .pointer (some ⟨b, 0, none⟩)) 0 188 (hd _ rfl ⟨0, .data⟩ (by simp) rfl) rfl rfl
      refine op_do rfl (wanted_none rfl) hK (fun K' hK' => ?_)
      unfold Oper.wp
      go_simp
      obtain ⟨Cs, kf, hp⟩ := (HS.out.1.fr0 hG.grown).p
      refine (RgS.all_any W1 b g Cs kf _ M hp).mono ?_
      rintro e W2 ⟨kb, vx, rfl, hA, m1, m2, f⟩
      exact hK' _ _ f ⟨kb, vx, rfl, hA, Nat.le_trans hG.grown.size m1, fun j hj => Nat.le_trans hG.grown.size (m2 j hj)⟩
    · have e2 := hG.old 2 (by kernel_rfl)
      refine op_do rfl (wanted_none rfl) hK (fun K' hK' => ?_)
      unfold Oper.wp
      go_simp
      exact hK' _ _ (Fr.refl _ _) rfl
    · have e190 := hG.val (v := .pointer (some ⟨r, 0, none⟩)) 2 190 (hd _ rfl ⟨2, .data⟩ (by simp) rfl) rfl rfl
      refine op_do rfl (wanted_none rfl) hK (fun K' hK' => ?_)
      unfold Oper.wp
      go_simp
      exact hK' _ _ (Fr.refl _ _) rfl
    · have e191 := hG.val (v := .pointer (some ⟨r, 0, none⟩)) 3 191 (hd _ rfl ⟨3, .data⟩ (by simp) rfl) rfl rfl
      refine op_do rfl (wanted_none rfl) hK (fun K' hK' => ?_)
      unfold Oper.wp
      go_simp
      exact hK' _ _ (Fr.refl _ _) rfl
    · have e192 := hG.val (v := .pointer (some ⟨r, 0, none⟩)) 4 192 (hd _ rfl ⟨4, .data⟩ (by simp) rfl) rfl rfl
      have cr0 := (rcells_at (HS.out.1.fr0 hG.grown).r.hd).1
      refine op_do rfl (wanted_none rfl) hK (fun K' hK' => ?_)
      unfold Oper.wp
      go_simp
      exact hK' _ _ (Fr.refl _ _) rfl
    · obtain ⟨u1, e189, s1⟩ := hG.get 1 189 (hd _ rfl ⟨1, .data⟩ (by simp) rfl) rfl
      have e193 := hG.val (v := .slice pr V.length cr) 5 193 (hd _ rfl ⟨5, .data⟩ (by simp) rfl) rfl rfl
      obtain ⟨kb, vx, rfl, hA, hn⟩ := s1
      refine op_do rfl (wanted_none rfl) hK (fun K' hK' => ?_)
      unfold Oper.wp
      go_simp
      exact hK' _ _ (Fr.refl _ _) ⟨kb, vx, rfl, hA, hn⟩
    · obtain ⟨u6, e194, s6⟩ := hG.get 6 194 (hd _ rfl ⟨6, .data⟩ (by simp) rfl) rfl
      obtain ⟨kb, vx, rfl, hA, hn⟩ := s6
      refine op_do rfl (wanted_none rfl) hK (fun K' hK' => ?_)
      unfold Oper.wp
      go_simp
      refine (tells_any W1 kb vx V pr V.length cr hA (by have := HV.out; omega) HFI.out.num (HS.out.2.2.1.fr hG.grown (by simp)) ((HS.out.1.fr0 hG.grown).r.rd (by have := HV.out; omega)) rfl).mono ?_
      rintro e W2 ⟨rfl, f⟩
      exact hK' _ _ f rfl
    · have e195 := hG.val (v := .bool true) 7 195 (hd _ rfl ⟨7, .data⟩ (by simp) rfl) rfl rfl
      refine op_do rfl (wanted_none rfl) hK (fun K' hK' => ?_)
      unfold Oper.wp
      go_simp
      exact hK' _ _ (Fr.refl _ _) rfl
  · intro vs W1 f1 hv
    have r0 : vs 0 = .pointer (some ⟨b, 0, none⟩) := hv 0 188 (by decide) rfl
    have r1 := hv 1 189 (by decide) rfl
    have r2 : vs 2 = .pointer (some ⟨r, 0, none⟩) := hv 2 190 (by decide) rfl
    have r3 : vs 3 = .pointer (some ⟨r, 0, none⟩) := hv 3 191 (by decide) rfl
    have r4 : vs 4 = .pointer (some ⟨r, 0, none⟩) := hv 4 192 (by decide) rfl
    have r5 : vs 5 = .slice pr V.length cr := hv 5 193 (by decide) rfl
    have r6 := hv 6 194 (by decide) rfl
    have r7 : vs 7 = .bool true := hv 7 195 (by decide) rfl
    have r8 : vs 8 = .bool true := hv 8 8 (by decide) rfl
    simp only [lay, List.foldl_cons, List.foldl_nil, r0, r2, r3, r4, r5, r7, r8]
    simp only [List.setIfInBounds_toArray, List.set_cons_zero, List.set_cons_succ]
    clear hv r0 r2 r3 r4 r5 r7 r8
    generalize vs 1 = x1 at *
    generalize vs 6 = x6 at *
    clear r1 r6
    have HR := Lib.hid (show QDoes w b g c d r (.slice pr V.length cr) k (.returned (.bool true)) W1 from ⟨rfl, V, M, QLeft.back HS.out.2.1 (QLeft.refl HS.out.1 f1), HFI.out.up⟩)
    clear f1
    go_wp2
    go_ret
    exact HR.out
def SP1 (W1 : World) (b g : Nat) (V' : List Int) (M' : RM) (ok : Bool) (W : World) : Prop := ∃ Wa Wb e, Fr [] W1 Wa ∧ RgS.PPost Wa b g (V'.map qtx) M' (.bool ok) e Wb ∧ Fr [] Wb W
theorem SP1.grow {W1 W W' : World} {b g : Nat} {V' : List Int} {M' : RM} {ok : Bool} (f : Fr [] W W') (h : SP1 W1 b g V' M' ok W) : SP1 W1 b g V' M' ok W' := by
  obtain ⟨Wa, Wb, e, h1, h2, h3⟩ := h
  exact ⟨Wa, Wb, e, h1, h2, h3.trans f (by simp)⟩
set_option maxRecDepth 100000 in
set_option maxHeartbeats 4000000 in
theorem qdoes_set (w : World) (b g c d r k : Nat) (vr : Value) (V : List Int) (M : RM) (on sv si : Int) (h : TQ w b g c d r vr V M) (hF : FineQ k V M) (hk : k ≤ 4398046511104) (hT : TB w) (hv : I64 sv) (hz0 : 0 ∉ [b, g, c, d, r]) :
    Calls Tryd.prog 23 #[.pointer (some ⟨b, 0, none⟩), .pointer (some ⟨c, 0, none⟩), .pointer (some ⟨r, 0, none⟩), .agg #[.int .i64 4, .int .i64 on, .int .i64 sv, .int .i64 si]] w (QDoes w b g c d r vr k) := by
  obtain ⟨bs, hbs⟩ : ∃ bs, bs = w.heap.size := ⟨_, rfl⟩
  obtain ⟨w1, hw1⟩ : ∃ w1, (w.alloc (.cells #[.int .i64 4, .int .i64 on, .int .i64 sv, .int .i64 si] 69)).alloc (.cells #[.int .i64 0, .float .f64 0] 65) = w1 := ⟨_, rfl⟩
  have F1 : Fr [] w w1 := by rw [← hw1]; exact ((Fr.refl _ _).alloc _).alloc _
  have hb : Blk w1 bs #[.int .i64 4, .int .i64 on, .int .i64 sv, .int .i64 si] 69 := by rw [← hw1, hbs]; exact (Blk.new w _ _).alloc _
  have hzb : Blk w1 (bs + 1) (pcells 0).toArray 65 := by rw [← hw1, hbs]; exact Blk.new_at (by simp) _ _
  have d0 := hb.at 0 (v := .int .i64 4) rfl
  have d2 := hb.at 2 (v := .int .i64 sv) rfl
  have d3 := hb.at 3 (v := .int .i64 si) rfl
  have hTQ := h.fr0 F1
  have hlts := h.lts
  have HS := Lib.hid (And.intro hTQ (And.intro F1 (And.intro (hT.fr F1 (by simp)) hz0)))
  have HQ := Lib.hid (And.intro hb (And.intro hzb (show bs + 1 ∉ [b, g, c, d, r] ∧ bs ∉ [b, g, c, d, r] ∧ bs + 1 ∉ vr.ownBlock.toList from ⟨fun hm => by have := hlts _ hm; omega, fun hm => by have := hlts _ hm; omega, fun hm => by have := own_lt h.r.own (by simpa using hm); omega⟩)))
  obtain ⟨V', M', ok, hpk, hfin, H3⟩ := set_three hTQ hF hk sv si hv
  have HX := Lib.hid (And.intro hpk hfin)
  have H3 := Lib.hid H3
  clear hpk hfin hF hk
  have HW1 := Lib.hid hw1
  have HBS := Lib.hid hbs
  clear h F1 hb hzb hTQ hlts hT hz0 hw1 hbs
  go_enter Tryd.func23, Tryd.ntmps23
  go_upto_region 5 with fail
  rw [HW1.out]
  simp only [← HBS.out]
  clear HW1
  go_wp2_with fail
  clear d0 d2 d3
  (with_reducible refine (H3.out.1 w1 vr HS.out.1.r).mono ?_)
  rintro e W1 q1
  have h1 := q1
  obtain ⟨rfl, v1, hr1, a1, F1⟩ := h1
  have hb1 := F1.blk HQ.out.1 (fun hm => HQ.out.2.2.2.1 (by simp at hm; simp [hm]))
  have HA := Lib.hid (And.intro q1 (And.intro F1 hb1))
  have HTX := Lib.hid (fun W (f : Fr [] W1 W) => qtext_any W sv hv ((HS.out.2.2.1.fr F1 (fun hm => HS.out.2.2.2 (by simp at hm; simp [hm]))).fr f (by simp)))
  obtain ⟨⟨n1, n2, n3⟩, ⟨n4, n5, n6⟩, ⟨n7, n8⟩, nv⟩ := HS.out.1.ne
  have HPA := Lib.hid (fun W (f : Fr [] W1 W) => HS.out.1.p_at (F1.trans f (by simp)) (by simpa using n3) (by simpa using n6))
  have HQA := Lib.hid (fun W Wa Wb (fa : Fr [] W1 Wa) (f2 : Fr [b, g] Wa Wb) (fb : Fr [] Wb W) => HS.out.1.q_at (S := [r, b, g]) ((((F1.trans fa (by simp)).mono (by simp)).trans f2 (by simp)).trans fb (by simp)) (by simp; exact ⟨n7, Ne.symm n1, Ne.symm n4⟩) (by simp; exact ⟨n8, Ne.symm n2, Ne.symm n5⟩))
  clear q1 hr1 a1 F1 hb1 n1 n2 n3 n4 n5 n6 n7 n8 nv
  generalize hqs : qtx sv = qs at *
  go_wp2_with fail
  refine region_chg (by kernel_rfl) (by kernel_rfl) [some (.pointer (some ⟨b, 0, none⟩)), some (.pointer (some ⟨bs, 3, none⟩)), some (.int .i64 si), some (.pointer (some ⟨bs, 2, none⟩)), some (.int .i64 sv), some (.string qs), some (.bool ok), some (.bool ok), some (.bool true), some (.bool true), some (.pointer (some ⟨c, 0, none⟩)), some (.pointer (some ⟨bs, 3, none⟩)), some (.int .i64 si), some (.pointer (some ⟨bs, 2, none⟩)), some (.int .i64 sv), some (.agg #[.int .i64 sv, .float .f64 0]), some (.bool ok), some (.bool ok), some (.bool true), some (.bool true), some (.bool true)] (TwoP W1 6 16 bs #[.int .i64 4, .int .i64 on, .int .i64 sv, .int .i64 si] 69 (SP1 W1 b g V' M' ok) (QLeft w1 b g c d r vr V' M')) 216 rfl (by kernel_rfl) [(0, 91), (1, 92), (2, 93), (3, 94), (4, 95), (5, 96), (6, 97), (7, 98), (8, 99), (9, 100), (10, 101), (11, 102), (12, 103), (13, 104), (14, 105), (15, 106), (16, 107), (17, 108), (18, 109), (19, 110), (20, 8)] (by kernel_rfl) (TwoP.start HA.out.2.2) ?_ ?_
  · intro q a1 W1_ i hi hnq hd hG K hK
    have hlt : i < 21 := hi
    have hc : i = 0 ∨ i = 1 ∨ i = 2 ∨ i = 3 ∨ i = 4 ∨ i = 5 ∨ i = 6 ∨ i = 7 ∨ i = 8 ∨ i = 9 ∨ i = 10 ∨ i = 11 ∨ i = 12 ∨ i = 13 ∨ i = 14 ∨ i = 15 ∨ i = 16 ∨ i = 17 ∨ i = 18 ∨ i = 19 ∨ i = 20 := by omega
    have hΨ := hG.world
    rcases hc with rfl | rfl | rfl | rfl | rfl | rfl | rfl | rfl | rfl | rfl | rfl | rfl | rfl | rfl | rfl | rfl | rfl | rfl | rfl | rfl | rfl
    · have e0 := hG.old 0 (by kernel_rfl)
      refine op_doC rfl (wanted_none rfl) hK (fun K' hK' => ?_)
      unfold Oper.wp
      go_simp
      exact hK' _ _ (fun u hu => by cases hu; rfl) (hΨ.keep (by decide) (by decide))
    · have e7 := hG.old 7 (by kernel_rfl)
      refine op_doC rfl (wanted_none rfl) hK (fun K' hK' => ?_)
      unfold Oper.wp
      go_simp
      exact hK' _ _ (fun u hu => by cases hu; rfl) (hΨ.keep (by decide) (by decide))
    · have e92 := hG.val (v := .pointer (some ⟨bs, 3, none⟩)) 1 92 (hd _ rfl ⟨1, .data⟩ (by simp) rfl) rfl rfl
      have c3 := hΨ.hb.at 3 (v := .int .i64 si) rfl
      refine op_doC rfl (wanted_none rfl) hK (fun K' hK' => ?_)
      unfold Oper.wp
      go_simp
      exact hK' _ _ (fun u hu => by cases hu; rfl) (hΨ.keep (by decide) (by decide))
    · have e7 := hG.old 7 (by kernel_rfl)
      refine op_doC rfl (wanted_none rfl) hK (fun K' hK' => ?_)
      unfold Oper.wp
      go_simp
      exact hK' _ _ (fun u hu => by cases hu; rfl) (hΨ.keep (by decide) (by decide))
    · have e94 := hG.val (v := .pointer (some ⟨bs, 2, none⟩)) 3 94 (hd _ rfl ⟨3, .data⟩ (by simp) rfl) rfl rfl
      have c2 := hΨ.hb.at 2 (v := .int .i64 sv) rfl
      refine op_doC rfl (wanted_none rfl) hK (fun K' hK' => ?_)
      unfold Oper.wp
      go_simp
      exact hK' _ _ (fun u hu => by cases hu; rfl) (hΨ.keep (by decide) (by decide))
    · have e95 := hG.val (v := .int .i64 sv) 4 95 (hd _ rfl ⟨4, .data⟩ (by simp) rfl) rfl rfl
      refine op_doC rfl (wanted_none rfl) hK (fun K' hK' => ?_)
      unfold Oper.wp
      go_simp
      have hn6 : ¬ q 6 := fun h => hnq (hG.closed 6 h _ rfl ⟨5, .data⟩ (by simp) rfl)
      refine (HTX.out W1_ (hΨ.s0 hn6)).mono ?_
      rintro e W2 ⟨rfl, f⟩
      exact hK' _ _ (fun u hu => by cases hu; rfl) (hΨ.grow (by decide) (by decide) f (fun _ _ => SP1.grow) (fun _ _ f h => QLeft.grow h f))
    · have e91 := hG.val (v := .pointer (some ⟨b, 0, none⟩)) 0 91 (hd _ rfl ⟨0, .data⟩ (by simp) rfl) rfl rfl
      have e93 := hG.val (v := .int .i64 si) 2 93 (hd _ rfl ⟨2, .data⟩ (by simp) rfl) rfl rfl
      have e96 := hG.val (v := .string qs) 5 96 (hd _ rfl ⟨5, .data⟩ (by simp) rfl) rfl rfl
      refine op_doC rfl (wanted_none rfl) hK (fun K' hK' => ?_)
      unfold Oper.wp
      go_simp
      obtain ⟨Cs, kf, hp⟩ := HPA.out W1_ (hΨ.s0 hnq)
      refine (H3.out.2.1 W1_ g Cs kf hp).mono ?_
      rintro e W2 hq2
      have hp1 : SP1 W1 b g V' M' ok W2 := ⟨W1_, W2, e, hΨ.s0 hnq, hq2, Fr.refl _ _⟩
      obtain ⟨rfl, g', Cs', kf', -, -, f⟩ := hq2
      exact hK' _ _ (fun u hu => by cases hu; rfl) (hΨ.one hnq (by decide) (f.blk hΨ.hb (fun hm => HQ.out.2.2.2.1 (by simp at hm; rcases hm with hm | hm <;> simp [hm]))) hp1)
    · have e16 := hG.old 16 (by kernel_rfl)
      refine op_doC rfl (wanted_none rfl) hK (fun K' hK' => ?_)
      unfold Oper.wp
      go_simp
      exact hK' _ _ (fun u hu => by cases hu; rfl) (hΨ.keep (by decide) (by decide))
    · have e97 := hG.val (v := .bool ok) 6 97 (hd _ rfl ⟨6, .data⟩ (by simp) rfl) rfl rfl
      have e98 := hG.val (v := .bool ok) 7 98 (hd _ rfl ⟨7, .data⟩ (by simp) rfl) rfl rfl
      refine op_doC rfl (wanted_none rfl) hK (fun K' hK' => ?_)
      unfold Oper.wp
      go_simp
      exact hK' _ _ (fun u hu => by cases hu; rfl) (hΨ.keep (by decide) (by decide))
    · have e99 := hG.val (v := .bool true) 8 99 (hd _ rfl ⟨8, .data⟩ (by simp) rfl) rfl rfl
      refine op_doC rfl (wanted_none rfl) hK (fun K' hK' => ?_)
      unfold Oper.wp
      go_simp
      exact hK' _ _ (fun u hu => by cases hu; rfl) (hΨ.keep (by decide) (by decide))
    · have e1 := hG.old 1 (by kernel_rfl)
      have eg := hG.val (v := .bool true) 9 100 (hd _ rfl ⟨9, .guard⟩ (by simp) rfl) rfl rfl
      refine op_doC rfl (by simp [Region.wanted, yielded, eg]) hK (fun K' hK' => ?_)
      unfold Oper.wp
      go_simp
      exact hK' _ _ (fun u hu => by cases hu; rfl) (hΨ.keep (by decide) (by decide))
    · have e7 := hG.old 7 (by kernel_rfl)
      have eg := hG.val (v := .bool true) 9 100 (hd _ rfl ⟨9, .guard⟩ (by simp) rfl) rfl rfl
      refine op_doC rfl (by simp [Region.wanted, yielded, eg]) hK (fun K' hK' => ?_)
      unfold Oper.wp
      go_simp
      exact hK' _ _ (fun u hu => by cases hu; rfl) (hΨ.keep (by decide) (by decide))
    · have e102 := hG.val (v := .pointer (some ⟨bs, 3, none⟩)) 11 102 (hd _ rfl ⟨11, .data⟩ (by simp) rfl) rfl rfl
      have eg := hG.val (v := .bool true) 9 100 (hd _ rfl ⟨9, .guard⟩ (by simp) rfl) rfl rfl
      have c3 := hΨ.hb.at 3 (v := .int .i64 si) rfl
      refine op_doC rfl (by simp [Region.wanted, yielded, eg]) hK (fun K' hK' => ?_)
      unfold Oper.wp
      go_simp
      exact hK' _ _ (fun u hu => by cases hu; rfl) (hΨ.keep (by decide) (by decide))
    · have e7 := hG.old 7 (by kernel_rfl)
      have eg := hG.val (v := .bool true) 9 100 (hd _ rfl ⟨9, .guard⟩ (by simp) rfl) rfl rfl
      refine op_doC rfl (by simp [Region.wanted, yielded, eg]) hK (fun K' hK' => ?_)
      unfold Oper.wp
      go_simp
      exact hK' _ _ (fun u hu => by cases hu; rfl) (hΨ.keep (by decide) (by decide))
    · have e104 := hG.val (v := .pointer (some ⟨bs, 2, none⟩)) 13 104 (hd _ rfl ⟨13, .data⟩ (by simp) rfl) rfl rfl
      have eg := hG.val (v := .bool true) 9 100 (hd _ rfl ⟨9, .guard⟩ (by simp) rfl) rfl rfl
      have c2 := hΨ.hb.at 2 (v := .int .i64 sv) rfl
      refine op_doC rfl (by simp [Region.wanted, yielded, eg]) hK (fun K' hK' => ?_)
      unfold Oper.wp
      go_simp
      exact hK' _ _ (fun u hu => by cases hu; rfl) (hΨ.keep (by decide) (by decide))
    · have e105 := hG.val (v := .int .i64 sv) 14 105 (hd _ rfl ⟨14, .data⟩ (by simp) rfl) rfl rfl
      have eg := hG.val (v := .bool true) 9 100 (hd _ rfl ⟨9, .guard⟩ (by simp) rfl) rfl rfl
      refine op_doC rfl (by simp [Region.wanted, yielded, eg]) hK (fun K' hK' => ?_)
      unfold Oper.wp
      go_simp
      exact hK' _ _ (fun u hu => by cases hu; rfl) (hΨ.keep (by decide) (by decide))
    · have e101 := hG.val (v := .pointer (some ⟨c, 0, none⟩)) 10 101 (hd _ rfl ⟨10, .data⟩ (by simp) rfl) rfl rfl
      have e103 := hG.val (v := .int .i64 si) 12 103 (hd _ rfl ⟨12, .data⟩ (by simp) rfl) rfl rfl
      have e106 := hG.val (v := .agg #[.int .i64 sv, .float .f64 0]) 15 106 (hd _ rfl ⟨15, .data⟩ (by simp) rfl) rfl rfl
      have eg := hG.val (v := .bool true) 9 100 (hd _ rfl ⟨9, .guard⟩ (by simp) rfl) rfl rfl
      refine op_doC rfl (by simp [Region.wanted, yielded, eg]) hK (fun K' hK' => ?_)
      unfold Oper.wp
      go_simp
      have q9 := hd _ rfl ⟨9, .chain⟩ (by simp) rfl
      have q6 := hG.closed 9 q9 _ rfl ⟨6, .chain⟩ (by simp) rfl
      obtain ⟨Wa, Wb, e2, fa, hq2, fb⟩ := hΨ.s1 q6 hnq
      obtain ⟨Ds, jf, hq⟩ := HQA.out W1_ Wa Wb fa (by obtain ⟨-, _, _, _, -, -, f⟩ := hq2; exact f) fb
      refine (H3.out.2.2 W1_ d Ds jf hq).mono ?_
      rintro e W2 hq3
      have hp2 := chain_rpq HS.out.1 HA.out.1 fa hq2 fb hq3 HX.out.1
      obtain ⟨rfl, d', Ds', jf', -, -, f⟩ := hq3
      exact hK' _ _ (fun u hu => by cases hu; rfl) (hΨ.two q6 (f.blk hΨ.hb (fun hm => HQ.out.2.2.2.1 (by simp at hm; rcases hm with hm | hm <;> simp [hm]))) hp2)
    · have e16 := hG.old 16 (by kernel_rfl)
      have eg := hG.val (v := .bool true) 9 100 (hd _ rfl ⟨9, .guard⟩ (by simp) rfl) rfl rfl
      refine op_doC rfl (by simp [Region.wanted, yielded, eg]) hK (fun K' hK' => ?_)
      unfold Oper.wp
      go_simp
      exact hK' _ _ (fun u hu => by cases hu; rfl) (hΨ.keep (by decide) (by decide))
    · have e107 := hG.val (v := .bool ok) 16 107 (hd _ rfl ⟨16, .data⟩ (by simp) rfl) rfl rfl
      have e108 := hG.val (v := .bool ok) 17 108 (hd _ rfl ⟨17, .data⟩ (by simp) rfl) rfl rfl
      have eg := hG.val (v := .bool true) 9 100 (hd _ rfl ⟨9, .guard⟩ (by simp) rfl) rfl rfl
      refine op_doC rfl (by simp [Region.wanted, yielded, eg]) hK (fun K' hK' => ?_)
      unfold Oper.wp
      go_simp
      exact hK' _ _ (fun u hu => by cases hu; rfl) (hΨ.keep (by decide) (by decide))
    · have e100 := hG.val (v := .bool true) 9 100 (hd _ rfl ⟨9, .data⟩ (by simp) rfl) rfl rfl
      have e109 := hG.val (v := .bool true) 18 109 (hd _ rfl ⟨18, .data⟩ (by simp) rfl) rfl rfl
      refine op_doC rfl (wanted_none rfl) hK (fun K' hK' => ?_)
      unfold Oper.wp
      go_simp
      exact hK' _ _ (fun u hu => by cases hu; rfl) (hΨ.keep (by decide) (by decide))
    · have e110 := hG.val (v := .bool true) 19 110 (hd _ rfl ⟨19, .data⟩ (by simp) rfl) rfl rfl
      refine op_doC rfl (wanted_none rfl) hK (fun K' hK' => ?_)
      unfold Oper.wp
      go_simp
      exact hK' _ _ (fun u hu => by cases hu; rfl) (hΨ.keep (by decide) (by decide))
  · intro vs q W1_ hq hΨ hv
    have r0 : vs 0 = .pointer (some ⟨b, 0, none⟩) := hv 0 91 _ (by decide) rfl rfl
    have r1 : vs 1 = .pointer (some ⟨bs, 3, none⟩) := hv 1 92 _ (by decide) rfl rfl
    have r2 : vs 2 = .int .i64 si := hv 2 93 _ (by decide) rfl rfl
    have r3 : vs 3 = .pointer (some ⟨bs, 2, none⟩) := hv 3 94 _ (by decide) rfl rfl
    have r4 : vs 4 = .int .i64 sv := hv 4 95 _ (by decide) rfl rfl
    have r5 : vs 5 = .string qs := hv 5 96 _ (by decide) rfl rfl
    have r6 : vs 6 = .bool ok := hv 6 97 _ (by decide) rfl rfl
    have r7 : vs 7 = .bool ok := hv 7 98 _ (by decide) rfl rfl
    have r8 : vs 8 = .bool true := hv 8 99 _ (by decide) rfl rfl
    have r9 : vs 9 = .bool true := hv 9 100 _ (by decide) rfl rfl
    have r10 : vs 10 = .pointer (some ⟨c, 0, none⟩) := hv 10 101 _ (by decide) rfl rfl
    have r11 : vs 11 = .pointer (some ⟨bs, 3, none⟩) := hv 11 102 _ (by decide) rfl rfl
    have r12 : vs 12 = .int .i64 si := hv 12 103 _ (by decide) rfl rfl
    have r13 : vs 13 = .pointer (some ⟨bs, 2, none⟩) := hv 13 104 _ (by decide) rfl rfl
    have r14 : vs 14 = .int .i64 sv := hv 14 105 _ (by decide) rfl rfl
    have r15 : vs 15 = .agg #[.int .i64 sv, .float .f64 0] := hv 15 106 _ (by decide) rfl rfl
    have r16 : vs 16 = .bool ok := hv 16 107 _ (by decide) rfl rfl
    have r17 : vs 17 = .bool ok := hv 17 108 _ (by decide) rfl rfl
    have r18 : vs 18 = .bool true := hv 18 109 _ (by decide) rfl rfl
    have r19 : vs 19 = .bool true := hv 19 110 _ (by decide) rfl rfl
    have r20 : vs 20 = .bool true := hv 20 8 _ (by decide) rfl rfl
    simp only [lay, List.foldl_cons, List.foldl_nil, r0, r1, r2, r3, r4, r5, r6, r7, r8, r9, r10, r11, r12, r13, r14, r15, r16, r17, r18, r19, r20] at hΨ ⊢
    simp only [List.setIfInBounds_toArray, List.set_cons_zero, List.set_cons_succ] at hΨ ⊢
    clear hv r0 r1 r2 r3 r4 r5 r6 r7 r8 r9 r10 r11 r12 r13 r14 r15 r16 r17 r18 r19 r20
    obtain ⟨-, hp2⟩ := hΨ.s2 (hq 16 (by decide))
    have HR := Lib.hid (show QDoes w b g c d r vr k (.returned (.bool true)) W1_ from ⟨rfl, V', M', QLeft.back HS.out.2.1 hp2, HX.out.2⟩)
    clear hΨ hp2 hq
    go_wp2
    go_ret
    exact HR.out
theorem qdoes_any (w : World) (b g c d r k : Nat) (vr : Value) (V : List Int) (M : RM) (kd on sv si : Int) (h : TQ w b g c d r vr V M) (hF : FineQ k V M) (hk : k ≤ 4398046511104) (hT : TB w) (hv : I64 sv) (hz0 : 0 ∉ [b, g, c, d, r]) :
    Calls Tryd.prog 23 #[.pointer (some ⟨b, 0, none⟩), .pointer (some ⟨c, 0, none⟩), .pointer (some ⟨r, 0, none⟩), .agg #[.int .i64 kd, .int .i64 on, .int .i64 sv, .int .i64 si]] w (QDoes w b g c d r vr k) := by
  by_cases e1 : kd = 1
  · subst e1; exact qdoes_push w b g c d r k vr V M on sv si h hF hk hT hv hz0
  by_cases e2 : kd = 2
  · subst e2; exact qdoes_pop w b g c d r k vr V M on sv si h hF hk hT hv hz0
  by_cases e3 : kd = 3
  · subst e3; exact qdoes_at w b g c d r k vr V M on sv si h hF hk hT hv hz0
  by_cases e4 : kd = 4
  · subst e4; exact qdoes_set w b g c d r k vr V M on sv si h hF hk hT hv hz0
  by_cases e5 : kd = 5
  · subst e5; exact qdoes_cut w b g c d r k vr V M on sv si h hF hk hT hv hz0
  by_cases e6 : kd = 6
  · subst e6; exact qdoes_drop w b g c d r k vr V M on sv si h hF hk hT hv hz0
  by_cases e7 : kd = 7
  · subst e7; exact qdoes_books w b g c d r k vr V M on sv si h hF hk hT hv hz0
  by_cases e8 : kd = 8
  · subst e8; exact qdoes_mark w b g c d r k vr V M on sv si h hF hk hT hv hz0
  by_cases e9 : kd = 9
  · subst e9; exact qdoes_all w b g c d r k vr V M on sv si h hF hk hT hv hz0
  exact qdoes_else w b g c d r k vr V M kd on sv si h hF hk hT hv hz0 e1 e2 e3 e4 e5 e6 e7 e8 e9
end Qu
end Go.Proofs.YtiimmndhinoaiaaDoor
