/-
  Tb, part 32 of 36: the texts Chg.
-/
import Derived.Test.YtgoolkgjcmdilaaDoorTb31
section
namespace Go.Proofs.YtgoolkgjcmdilaaDoor
open Go.RowKit Flo
set_option linter.unusedVariables false
set_option linter.unusedSimpArgs false
attribute [local go_sem] Oper.semAt_some
section
variable {w w' : World} {M N : List Nat} {k kr rO rN : Nat} {F F' : List Int} {V V' : List VO}
/-- The program's book has gone on, the document's not yet. -/
structure Md (w : World) (M N : List Nat) (k kr rO rN : Nat) (F : List Int) (V : List VO) (F' : List Int) (V' : List VO) : Prop where
  kb : KBF w N k rO rN F' V'
  rb : RBook w M kr rO rN F V
  sub : ∀ s ∈ N, s ∈ M
  out : kr ∉ N
  deb : Firm M w DeB
theorem St.prog (h : St w M N k kr rO rN F V) (f : Fr N w w') (hk : KBF w' (ext N w.heap.size w'.heap.size) k rO rN F' V') : Md w' (ext M w.heap.size w'.heap.size) (ext N w.heap.size w'.heap.size) k kr rO rN F V F' V' := by
  obtain ⟨hm, hl⟩ := h.rb.mem
  have hs : ∀ x ∈ N, x ∈ M ∨ w.heap.size ≤ x := fun x hx => .inl (h.sub x hx)
  have hM : ∀ x ∈ ext M w.heap.size w'.heap.size, x ∈ M ∨ w.heap.size ≤ x := fun x hx => (mem_ext.1 hx).imp id (fun q => q.1)
  refine ⟨hk, h.rb.step f hs h.out hM (ext_low hl f.size) (mem_ext.2 (.inl hm)), fun s hx => ?_, fun hx => ?_, h.deb.step f hs hM⟩
  · exact (mem_ext.1 hx).elim (fun q => mem_ext.2 (.inl (h.sub s q))) (fun q => mem_ext.2 (.inr q))
  · rcases mem_ext.1 hx with q | q
    · exact h.out q
    · have := hl kr hm; omega
theorem Md.ref (h : Md w M N k kr rO rN F V F' V') (f : Fr [kr] w w') (hr : RBook w' M kr rO rN F' V') : St w' M N k kr rO rN F' V' := by
  obtain ⟨hm, hl⟩ := h.rb.mem
  refine ⟨h.kb.step f (fun s hs hx => ?_) (fun s hs => hs) (fun s hs => Nat.lt_of_lt_of_le (hl s (h.sub s hs)) f.size), hr, h.sub, h.out, h.deb.step f (fun x hx => ?_) (fun x hx => .inl hx)⟩
  · simp at hs
    subst hs
    exact h.out hx
  · simp at hx
    subst hx
    exact .inl hm
theorem Md.grow (h : Md w M N k kr rO rN F V F' V') (f : Fr [] w w') : Md w' M N k kr rO rN F V F' V' := ⟨h.kb.grow f, h.rb.grow f, h.sub, h.out, h.deb.grow f⟩
theorem KBF.wider {n0 n1 n2 : Nat} (h : KBF w (ext N n1 n2) k rO rN F V) (h0 : n0 ≤ n1) (hn : n2 = w.heap.size) (hN : ∀ s ∈ N, s < w.heap.size) : KBF w (ext N n0 n2) k rO rN F V :=
  h.step (Fr.refl [] w) (by simp) (fun s hs => (mem_ext.1 hs).elim (fun q => mem_ext.2 (.inl q)) (fun q => mem_ext.2 (.inr (by omega)))) (fun s hs => (mem_ext.1 hs).elim (hN s) (fun q => by omega))
theorem kpost_same {a : Value} {e : Ending} (h : KBF w N k rO rN F V) (hp : e = .returned a ∧ Fr [] w w') : KPost w N k rO rN F V a e w' := by
  obtain ⟨Fs, h1, bO, bN, bP, v, u, vP, BP, Cs, h2, h3⟩ := h
  exact ⟨hp.1, ⟨Fs, h1, bO, bN, bP, v, u, vP, BP, Cs, (h2.grow hp.2).ext _ _ (Nat.le_refl _), h3⟩, hp.2.mono (by simp)⟩
theorem rbpost_same {a : Value} {e : Ending} (h : RBook w M kr rO rN F V) (hp : e = .returned a ∧ Fr [] w w') : RBPost w M kr rO rN F V a e w' := ⟨hp.1, h.grow hp.2, hp.2.mono (by simp)⟩
end
/-- What a call that changes leaves. -/
def ChPost (w : World) (M N : List Nat) (k kr rO rN : Nat) (e : Ending) (w' : World) : Prop := e = .returned (.bool true) ∧ ∃ M' N' F' V', St w' M' N' k kr rO rN F' V' ∧ Fr (kr :: N) w w' ∧ (∀ s ∈ M', s ∈ M ∨ w.heap.size ≤ s) ∧ (∀ s ∈ N', s ∈ N ∨ w.heap.size ≤ s) ∧ ∀ s ∈ M, s ∈ M'
theorem ChPost.mk {w0 w w1 w2 : World} {M N : List Nat} {k kr rO rN : Nat} {F F' : List Int} {V V' : List VO} (h : St w M N k kr rO rN F V) (f0 : Fr [] w0 w) (f1 : Fr N w w1) (f2 : Fr [kr] w1 w2) (h2 : St w2 (ext M w.heap.size w1.heap.size) (ext N w.heap.size w1.heap.size) k kr rO rN F' V') : ChPost w0 M N k kr rO rN (.returned (.bool true)) w2 := by
  have h0 := f0.size
  refine ⟨rfl, _, _, F', V', h2, (f0.mono (by simp)).trans ((f1.mono (T := kr :: N) fun s hs => .inl (List.mem_cons_of_mem _ hs)).trans f2 (fun s hs => .inl (by simp at hs; simp [hs]))) (fun s hs => .inl hs), fun s hs => ?_, fun s hs => ?_, fun s hs => mem_ext.2 (.inl hs)⟩
  · rcases mem_ext.1 hs with q | q
    · exact .inl q
    · exact .inr (by omega)
  · rcases mem_ext.1 hs with q | q
    · exact .inl q
    · exact .inr (by omega)
/-- Both books answer alike. -/
def Both1 (fA fB : Nat) (x : Value) (k kr rO rN : Nat) (F : List Int) (V : List VO) (a : Value) (F' : List Int) (V' : List VO) : Prop :=
  (∀ W M N, St W M N k kr rO rN F V → Calls Tryd.prog fA #[.pointer (some ⟨k, 0, none⟩), x] W (KPost W N k rO rN F' V' a)) ∧ (∀ W M, RBook W M kr rO rN F V → Calls Tryd.prog fB #[.pointer (some ⟨kr, 0, none⟩), x] W (RBPost W M kr rO rN F' V' a))
theorem both_forget (k kr rO rN : Nat) (F : List Int) (V : List VO) (id : Int) (hi : U32 id) : Both1 119 120 (.int .u32 id) k kr rO rN F V (.bool (decide (0 ≤ posV V id))) F (delV V (posV V id)) :=
  ⟨fun W M N h => kbforget id h.kb hi, fun W M h => rforget W M kr rO rN F V id h⟩
theorem both_drop (k kr rO rN : Nat) (F : List Int) (V : List VO) (f : Int) (hf : U32 f) : Both1 122 123 (.int .u32 f) k kr rO rN F V (.bool (decide (f ∈ F))) (outL F f) (V.map (dropO f)) :=
  ⟨fun W M N h => kbdrop f h.kb hf, fun W M h => rdropF W M kr rO rN F V f h⟩
theorem both_add (k kr rO rN : Nat) (F : List Int) (V : List VO) (f : Int) (hf : U32 f) (h64 : rN ≤ 64) : ∃ (a : Int) (F' : List Int), Both1 94 121 (.int .u32 f) k kr rO rN F V (.int .i64 a) F' V := by
  by_cases hm : f ∈ F
  · exact ⟨180, F, fun W M N h => (kbaddF_was f h.kb hf hm).mono fun e w' hp => kpost_same h.kb hp, fun W M h => (raddF_was W M kr rO rN F V f h hm).mono fun e w' hp => rbpost_same h ⟨hp.1, hp.2 ▸ Fr.refl _ _⟩⟩
  · by_cases hr : (rN : Int) ≤ (F.length : Int)
    · exact ⟨5, F, fun W M N h => (kbaddF_full f h.kb h.deb.out hf hm hr).mono fun e w' hp => kpost_same h.kb hp, fun W M h => (raddF_full W M kr rO rN F V f h hm hr).mono fun e w' hp => rbpost_same h hp⟩
    · exact ⟨0, withL F f, fun W M N h => kbaddF_new f h.kb h.deb.out hf hm hr, fun W M h => raddF_new W M kr rO rN F V f h hm hr (by omega)⟩
theorem both_turn (k kr rO rN : Nat) (F : List Int) (V : List VO) (id f : Int) (inn : Bool) (hi : U32 id) (hf : U32 f) (hids : ∀ o ∈ V, o.ids.length ≤ 64) : ∃ (a : Bool) (b : Int) (V' : List VO),
    (∀ W M N, St W M N k kr rO rN F V → Calls Tryd.prog (if inn then 95 else 124) #[.pointer (some ⟨k, 0, none⟩), .int .u32 id, .int .u32 f] W (KPost W N k rO rN F V' (.tuple #[.bool a, .int .i64 b]))) ∧ (∀ W M, RBook W M kr rO rN F V → Calls Tryd.prog 125 #[.pointer (some ⟨kr, 0, none⟩), .int .u32 id, .int .u32 f, .bool inn] W (RBPost W M kr rO rN F V' (.tuple #[.bool a, .int .i64 b]))) := by
  by_cases hl : posV V id < 0 ∨ ¬ f ∈ F
  · exact ⟨false, 181, V, fun W M N h => (kbturn_lost id f inn h.kb hi hf hl).mono fun e w' hp => kpost_same h.kb hp, fun W M h => (rturn_lost W M kr rO rN F V id f inn h hl).mono fun e w' hp => rbpost_same h hp⟩
  · have hm : f ∈ F := Decidable.byContradiction fun q => hl (.inr q)
    obtain ⟨r, o, hz, ho⟩ := (posV_case V id).resolve_left (fun q => hl (.inl q))
    have h64 := hids o (List.mem_of_getElem? ho)
    by_cases hin : decide (f ∈ o.ids) = inn
    · exact ⟨false, 0, V, fun W M N h => kbturn_is id f inn r o h.kb hi hf hz ho hm hin, fun W M h => (rturn_is W M kr rO rN F V id f inn r o h hz ho hm hin).mono fun e w' hp => rbpost_same h hp⟩
    · cases inn with
      | true =>
        have hin' : decide (f ∈ o.ids) = false := by cases hq : decide (f ∈ o.ids); rfl; exact absurd hq hin
        exact ⟨true, 0, _, fun W M N h => kbturn_in id f r o h.kb hi hf hz ho hm hin', fun W M h => rturn_in W M kr rO rN F V id f r o h hz ho hm hin' (by have := withL_len o.ids f; omega)⟩
      | false =>
        have hin' : decide (f ∈ o.ids) = true := by cases hq : decide (f ∈ o.ids); exact absurd hq hin; rfl
        exact ⟨true, 0, _, fun W M N h => kbturn_out id f r o h.kb hi hf hz ho hm hin', fun W M h => rturn_out W M kr rO rN F V id f r o h hz ho hm hin' (by have := outL_len o.ids f; omega)⟩
/-- Operations a and b change memory, a first. -/
structure TwoP (w0 : World) (a b bb : Nat) (cc : Array Value) (ee : TypeId) (P1 P2 : World → Prop) (p : Nat → Prop) (f : Nat → Option Value) (W : World) : Prop where
  hb : Blk W bb cc ee
  s0 : ¬ p a → Fr [] w0 W
  s1 : p a → ¬ p b → P1 W
  s2 : p b → p a ∧ P2 W
section
variable {w0 W W' : World} {a b bb i : Nat} {cc : Array Value} {ee : TypeId} {P1 P2 : World → Prop} {p : Nat → Prop} {f g : Nat → Option Value}
theorem TwoP.start (h : Blk w0 bb cc ee) : TwoP w0 a b bb cc ee P1 P2 (fun _ => False) f w0.drew := ⟨h.drew, fun _ => (Fr.refl _ _).drew, fun h => h.elim, fun h => h.elim⟩
theorem TwoP.keep (h : TwoP w0 a b bb cc ee P1 P2 p f W) (ha : a ≠ i) (hb : b ≠ i) : TwoP w0 a b bb cc ee P1 P2 (fun k => p k ∨ k = i) g W :=
  ⟨h.hb, fun q => h.s0 (fun z => q (.inl z)), fun q r => h.s1 (q.resolve_right ha) (fun z => r (.inl z)), fun q => ⟨.inl (h.s2 (q.resolve_right hb)).1, (h.s2 (q.resolve_right hb)).2⟩⟩
theorem TwoP.one (h : TwoP w0 a b bb cc ee P1 P2 p f W) (hn : ¬ p a) (hab : b ≠ a) (hb : Blk W' bb cc ee) (hq : P1 W') : TwoP w0 a b bb cc ee P1 P2 (fun k => p k ∨ k = a) g W' :=
  ⟨hb, fun q => absurd (.inr rfl) q, fun _ _ => hq, fun q => absurd (h.s2 (q.resolve_right hab)).1 hn⟩
theorem TwoP.two (h : TwoP w0 a b bb cc ee P1 P2 p f W) (ha : p a) (hb : Blk W' bb cc ee) (hq : P2 W') : TwoP w0 a b bb cc ee P1 P2 (fun k => p k ∨ k = b) g W' :=
  ⟨hb, fun q => absurd (.inl ha) q, fun _ q => absurd (.inr rfl) q, fun _ => ⟨.inl ha, hq⟩⟩
end
set_option maxRecDepth 100000 in
set_option maxHeartbeats 2000000 in
theorem chg_else (w : World) (M N : List Nat) (k kr rO rN : Nat) (F : List Int) (V : List VO) (kd ob fe nu ti px py a0 a1 a2 a3 a4 : Int) (sp : Nat) (up : Option Addr) (un uc : Nat) (h : St w M N k kr rO rN F V) (hob : U32 ob) (hfe : U32 fe) (h1 : kd ≠ 1) (h2 : kd ≠ 2) (h3 : kd ≠ 3) (h4 : kd ≠ 4) (h5 : kd ≠ 5) (h6 : kd ≠ 6) (h7 : kd ≠ 7) :
    Calls Tryd.prog 54 #[.pointer (some ⟨k, 0, none⟩), .pointer (some ⟨kr, 0, none⟩), .agg #[.int .i64 kd, .int .u32 ob, .int .u32 fe, .int .u32 nu, .int .u32 ti, .int .i32 px, .int .i32 py, .int .u32 a0, .int .u32 a1, .int .u32 a2, .int .i32 a3, .int .i32 a4, .float .f64 sp, .slice up un uc]] w (ChPost w M N k kr rO rN) := by
  obtain ⟨w1, hw1⟩ : ∃ w1, w.alloc (.cells #[.int .i64 kd, .int .u32 ob, .int .u32 fe, .int .u32 nu, .int .u32 ti, .int .i32 px, .int .i32 py, .int .u32 a0, .int .u32 a1, .int .u32 a2, .int .i32 a3, .int .i32 a4, .float .f64 sp, .slice up un uc] 121) = w1 := ⟨_, rfl⟩
  have F1 : Fr [] w w1 := by rw [← hw1]; exact (Fr.refl _ _).alloc _
  have hb : Blk w1 w.heap.size #[.int .i64 kd, .int .u32 ob, .int .u32 fe, .int .u32 nu, .int .u32 ti, .int .i32 px, .int .i32 py, .int .u32 a0, .int .u32 a1, .int .u32 a2, .int .i32 a3, .int .i32 a4, .float .f64 sp, .slice up un uc] 121 := by rw [← hw1]; exact Blk.new w _ _
  have hlow : ∀ s ∈ M, s < w.heap.size := h.rb.mem.2
  have d0 := hb.at 0 (v := .int .i64 kd) rfl
  rw [← hw1] at d0
  have HS := Lib.hid (And.intro (h.grow F1) F1)
  have HQ := Lib.hid hw1
  clear h F1 hb hlow hw1
  go_enter Tryd.func54, Tryd.ntmps54
  go_wp2_with fail
  obtain ⟨h, F1⟩ := HS.out
  have hw1 := HQ.out
  rw [hw1]
  refine bodyPost_ret (v := .bool true) (by simp [results, Tryd.results54, go_sem]) rfl ⟨rfl, M, N, F, V, h, F1.mono (by simp), fun s hs => .inl hs, fun s hs => .inl hs, fun s hs => hs⟩
set_option maxRecDepth 100000 in
set_option maxHeartbeats 2000000 in
theorem chg_forget (w : World) (M N : List Nat) (k kr rO rN : Nat) (F : List Int) (V : List VO) (ob fe nu ti px py a0 a1 a2 a3 a4 : Int) (sp : Nat) (up : Option Addr) (un uc : Nat) (h : St w M N k kr rO rN F V) (hob : U32 ob) (hfe : U32 fe) :
    Calls Tryd.prog 54 #[.pointer (some ⟨k, 0, none⟩), .pointer (some ⟨kr, 0, none⟩), .agg #[.int .i64 3, .int .u32 ob, .int .u32 fe, .int .u32 nu, .int .u32 ti, .int .i32 px, .int .i32 py, .int .u32 a0, .int .u32 a1, .int .u32 a2, .int .i32 a3, .int .i32 a4, .float .f64 sp, .slice up un uc]] w (ChPost w M N k kr rO rN) := by
  obtain ⟨w1, hw1⟩ : ∃ w1, w.alloc (.cells #[.int .i64 3, .int .u32 ob, .int .u32 fe, .int .u32 nu, .int .u32 ti, .int .i32 px, .int .i32 py, .int .u32 a0, .int .u32 a1, .int .u32 a2, .int .i32 a3, .int .i32 a4, .float .f64 sp, .slice up un uc] 121) = w1 := ⟨_, rfl⟩
  have F1 : Fr [] w w1 := by rw [← hw1]; exact (Fr.refl _ _).alloc _
  have hb : Blk w1 w.heap.size #[.int .i64 3, .int .u32 ob, .int .u32 fe, .int .u32 nu, .int .u32 ti, .int .i32 px, .int .i32 py, .int .u32 a0, .int .u32 a1, .int .u32 a2, .int .i32 a3, .int .i32 a4, .float .f64 sp, .slice up un uc] 121 := by rw [← hw1]; exact Blk.new w _ _
  have hlow : ∀ s ∈ M, s < w.heap.size := h.rb.mem.2
  have d0 := hb.at 0 (v := .int .i64 3) rfl
  rw [← hw1] at d0
  obtain ⟨F2, V2, hB⟩ : ∃ F2 V2, Both1 119 120 (.int .u32 ob) k kr rO rN F V (.bool (decide (0 ≤ posV V ob))) F2 V2 := ⟨_, _, both_forget k kr rO rN F V ob hob⟩
  have HB := Lib.hid hB
  have HS := Lib.hid (And.intro (h.grow F1) F1)
  have HQ := Lib.hid (And.intro hb hw1)
  have HM := Lib.hid (And.intro hlow (And.intro h.sub h.rb.mem.1))
  clear h F1 hb hlow hw1 hB
  go_enter Tryd.func54, Tryd.ntmps54
  go_wp2_with fail
  obtain ⟨hb, hw1⟩ := HQ.out
  rw [hw1]
  obtain ⟨b5, hb5⟩ : ∃ b5, b5 = w.heap.size := ⟨_, rfl⟩
  have HLB := Lib.hid (show (∀ s ∈ N, s < b5) ∧ kr < b5 from ⟨fun s hs => by rw [hb5]; exact HM.out.1 s (HM.out.2.1 s hs), by rw [hb5]; exact HM.out.1 kr HM.out.2.2⟩)
  rw [← hb5] at hb ⊢
  clear hb5 hw1 HQ d0
  refine region_chg (by kernel_rfl) (by kernel_rfl) [some (.pointer (some ⟨k, 0, none⟩)), some (.pointer (some ⟨b5, 1, none⟩)), some (.int .u32 ob), some (.bool (decide (0 ≤ posV V ob))), some (.pointer (some ⟨kr, 0, none⟩)), some (.pointer (some ⟨b5, 1, none⟩)), some (.int .u32 ob), some (.bool (decide (0 ≤ posV V ob))), some (.bool true), some (.bool true)] (TwoP w1 3 7 b5 #[.int .i64 3, .int .u32 ob, .int .u32 fe, .int .u32 nu, .int .u32 ti, .int .i32 px, .int .i32 py, .int .u32 a0, .int .u32 a1, .int .u32 a2, .int .i32 a3, .int .i32 a4, .float .f64 sp, .slice up un uc] 121 (fun W => Fr N w1 W ∧ Md W (ext M w1.heap.size W.heap.size) (ext N w1.heap.size W.heap.size) k kr rO rN F V F2 V2) (fun W => ∃ Wm, Fr N w1 Wm ∧ Fr [kr] Wm W ∧ St W (ext M w1.heap.size Wm.heap.size) (ext N w1.heap.size Wm.heap.size) k kr rO rN F2 V2)) 177 rfl (by kernel_rfl) [(0, 102), (1, 103), (2, 104), (3, 105), (4, 106), (5, 107), (6, 108), (7, 109), (8, 110), (9, 6)] (by kernel_rfl) (TwoP.start hb) ?_ ?_
  · intro q a1 W1 i hi hnq hd hG K hK
    have hlt : i < 10 := hi
    have hc : i = 0 ∨ i = 1 ∨ i = 2 ∨ i = 3 ∨ i = 4 ∨ i = 5 ∨ i = 6 ∨ i = 7 ∨ i = 8 ∨ i = 9 := by omega
    have hΨ := hG.world
    rcases hc with rfl | rfl | rfl | rfl | rfl | rfl | rfl | rfl | rfl | rfl
    · have e0 := hG.old 0 (by kernel_rfl)
      refine op_doC rfl (wanted_none rfl) hK (fun K' hK' => ?_)
      unfold Oper.wp
      go_simp
      exact hK' _ _ (fun u hu => by cases hu; rfl) (hΨ.keep (by decide) (by decide))
    · have e5 := hG.old 5 (by kernel_rfl)
      refine op_doC rfl (wanted_none rfl) hK (fun K' hK' => ?_)
      unfold Oper.wp
      go_simp
      exact hK' _ _ (fun u hu => by cases hu; rfl) (hΨ.keep (by decide) (by decide))
    · have e103 := hG.val (v := .pointer (some ⟨b5, 1, none⟩)) 1 103 (hd _ rfl ⟨1, .data⟩ (by simp) rfl) rfl rfl
      have c2 := hΨ.hb.at 1 (v := .int .u32 ob) rfl
      refine op_doC rfl (wanted_none rfl) hK (fun K' hK' => ?_)
      unfold Oper.wp
      go_simp
      exact hK' _ _ (fun u hu => by cases hu; rfl) (hΨ.keep (by decide) (by decide))
    · have e102 := hG.val (v := .pointer (some ⟨k, 0, none⟩)) 0 102 (hd _ rfl ⟨0, .data⟩ (by simp) rfl) rfl rfl
      have e104 := hG.val (v := .int .u32 ob) 2 104 (hd _ rfl ⟨2, .data⟩ (by simp) rfl) rfl rfl
      refine op_doC rfl (wanted_none rfl) hK (fun K' hK' => ?_)
      unfold Oper.wp
      go_simp
      refine (HB.out.1 W1 M N (HS.out.1.grow (hΨ.s0 hnq))).mono ?_
      rintro e W2 ⟨rfl, hk, f⟩
      have f01 := hΨ.s0 hnq
      have fN : Fr N w1 W2 := (f01.mono (by simp)).trans f (fun s hs => .inl hs)
      have hmd := HS.out.1.prog fN (hk.wider f01.size rfl (fun s hs => Nat.lt_of_lt_of_le (HS.out.1.rb.mem.2 s (HS.out.1.sub s hs)) fN.size))
      exact hK' _ _ (fun u hu => by cases hu; rfl) (hΨ.one hnq (by decide) (f.blk hΨ.hb (fun hm => absurd (HLB.out.1 _ hm) (by omega))) ⟨fN, hmd⟩)
    · have e1 := hG.old 1 (by kernel_rfl)
      refine op_doC rfl (wanted_none rfl) hK (fun K' hK' => ?_)
      unfold Oper.wp
      go_simp
      exact hK' _ _ (fun u hu => by cases hu; rfl) (hΨ.keep (by decide) (by decide))
    · have e5 := hG.old 5 (by kernel_rfl)
      refine op_doC rfl (wanted_none rfl) hK (fun K' hK' => ?_)
      unfold Oper.wp
      go_simp
      exact hK' _ _ (fun u hu => by cases hu; rfl) (hΨ.keep (by decide) (by decide))
    · have e107 := hG.val (v := .pointer (some ⟨b5, 1, none⟩)) 5 107 (hd _ rfl ⟨5, .data⟩ (by simp) rfl) rfl rfl
      have c2 := hΨ.hb.at 1 (v := .int .u32 ob) rfl
      refine op_doC rfl (wanted_none rfl) hK (fun K' hK' => ?_)
      unfold Oper.wp
      go_simp
      exact hK' _ _ (fun u hu => by cases hu; rfl) (hΨ.keep (by decide) (by decide))
    · have e106 := hG.val (v := .pointer (some ⟨kr, 0, none⟩)) 4 106 (hd _ rfl ⟨4, .data⟩ (by simp) rfl) rfl rfl
      have e108 := hG.val (v := .int .u32 ob) 6 108 (hd _ rfl ⟨6, .data⟩ (by simp) rfl) rfl rfl
      refine op_doC rfl (wanted_none rfl) hK (fun K' hK' => ?_)
      unfold Oper.wp
      go_simp
      have q3 := hd _ rfl ⟨3, .chain⟩ (by simp) rfl
      obtain ⟨fm, hmd⟩ := hΨ.s1 q3 hnq
      refine (HB.out.2 W1 _ hmd.rb).mono ?_
      rintro e W2 ⟨rfl, hr, f⟩
      exact hK' _ _ (fun u hu => by cases hu; rfl) (hΨ.two q3 (f.blk hΨ.hb (fun hm => by simp at hm; have := HLB.out.2; omega)) ⟨W1, fm, f, hmd.ref f hr⟩)
    · have e105 := hG.val (v := .bool (decide (0 ≤ posV V ob))) 3 105 (hd _ rfl ⟨3, .data⟩ (by simp) rfl) rfl rfl
      have e109 := hG.val (v := .bool (decide (0 ≤ posV V ob))) 7 109 (hd _ rfl ⟨7, .data⟩ (by simp) rfl) rfl rfl
      refine op_doC rfl (wanted_none rfl) hK (fun K' hK' => ?_)
      unfold Oper.wp
      go_simp
      exact hK' _ _ (fun u hu => by cases hu; rfl) (hΨ.keep (by decide) (by decide))
    · have e110 := hG.val (v := .bool true) 8 110 (hd _ rfl ⟨8, .data⟩ (by simp) rfl) rfl rfl
      refine op_doC rfl (wanted_none rfl) hK (fun K' hK' => ?_)
      unfold Oper.wp
      go_simp
      exact hK' _ _ (fun u hu => by cases hu; rfl) (hΨ.keep (by decide) (by decide))
  · intro vs q W1 hq hΨ hv
    have r0 : vs 0 = .pointer (some ⟨k, 0, none⟩) := hv 0 102 _ (by decide) rfl rfl
    have r1 : vs 1 = .pointer (some ⟨b5, 1, none⟩) := hv 1 103 _ (by decide) rfl rfl
    have r2 : vs 2 = .int .u32 ob := hv 2 104 _ (by decide) rfl rfl
    have r3 : vs 3 = .bool (decide (0 ≤ posV V ob)) := hv 3 105 _ (by decide) rfl rfl
    have r4 : vs 4 = .pointer (some ⟨kr, 0, none⟩) := hv 4 106 _ (by decide) rfl rfl
    have r5 : vs 5 = .pointer (some ⟨b5, 1, none⟩) := hv 5 107 _ (by decide) rfl rfl
    have r6 : vs 6 = .int .u32 ob := hv 6 108 _ (by decide) rfl rfl
    have r7 : vs 7 = .bool (decide (0 ≤ posV V ob)) := hv 7 109 _ (by decide) rfl rfl
    have r8 : vs 8 = .bool true := hv 8 110 _ (by decide) rfl rfl
    have r9 : vs 9 = .bool true := hv 9 6 _ (by decide) rfl rfl
    simp only [lay, List.foldl_cons, List.foldl_nil, r0, r1, r2, r3, r4, r5, r6, r7, r8, r9] at hΨ ⊢
    simp only [List.setIfInBounds_toArray, List.set_cons_zero, List.set_cons_succ] at hΨ ⊢
    clear hv r0 r1 r2 r3 r4 r5 r6 r7 r8 r9
    obtain ⟨-, Wm, f1, f2, hst⟩ := hΨ.s2 (hq 7 (by decide))
    go_wp2_with fail
    exact bodyPost_ret (v := .bool true) (by simp [results, Tryd.results54, go_sem]) rfl (ChPost.mk HS.out.1 HS.out.2 f1 f2 hst)
set_option maxRecDepth 100000 in
set_option maxHeartbeats 2000000 in
theorem chg_add (w : World) (M N : List Nat) (k kr rO rN : Nat) (F : List Int) (V : List VO) (ob fe nu ti px py a0 a1 a2 a3 a4 : Int) (sp : Nat) (up : Option Addr) (un uc : Nat) (h : St w M N k kr rO rN F V) (hob : U32 ob) (hfe : U32 fe) :
    Calls Tryd.prog 54 #[.pointer (some ⟨k, 0, none⟩), .pointer (some ⟨kr, 0, none⟩), .agg #[.int .i64 4, .int .u32 ob, .int .u32 fe, .int .u32 nu, .int .u32 ti, .int .i32 px, .int .i32 py, .int .u32 a0, .int .u32 a1, .int .u32 a2, .int .i32 a3, .int .i32 a4, .float .f64 sp, .slice up un uc]] w (ChPost w M N k kr rO rN) := by
  obtain ⟨w1, hw1⟩ : ∃ w1, w.alloc (.cells #[.int .i64 4, .int .u32 ob, .int .u32 fe, .int .u32 nu, .int .u32 ti, .int .i32 px, .int .i32 py, .int .u32 a0, .int .u32 a1, .int .u32 a2, .int .i32 a3, .int .i32 a4, .float .f64 sp, .slice up un uc] 121) = w1 := ⟨_, rfl⟩
  have F1 : Fr [] w w1 := by rw [← hw1]; exact (Fr.refl _ _).alloc _
  have hb : Blk w1 w.heap.size #[.int .i64 4, .int .u32 ob, .int .u32 fe, .int .u32 nu, .int .u32 ti, .int .i32 px, .int .i32 py, .int .u32 a0, .int .u32 a1, .int .u32 a2, .int .i32 a3, .int .i32 a4, .float .f64 sp, .slice up un uc] 121 := by rw [← hw1]; exact Blk.new w _ _
  have hlow : ∀ s ∈ M, s < w.heap.size := h.rb.mem.2
  have d0 := hb.at 0 (v := .int .i64 4) rfl
  rw [← hw1] at d0
  obtain ⟨ea, F2, hB⟩ := both_add k kr rO rN F V fe hfe h.kb.lens.2.2.2.1
  obtain ⟨V2, hV2⟩ : ∃ V2, V2 = V := ⟨_, rfl⟩
  have hB : Both1 94 121 (.int .u32 fe) k kr rO rN F V (.int .i64 ea) F2 V2 := by rw [hV2]; exact hB
  clear hV2
  have HB := Lib.hid hB
  have HS := Lib.hid (And.intro (h.grow F1) F1)
  have HQ := Lib.hid (And.intro hb hw1)
  have HM := Lib.hid (And.intro hlow (And.intro h.sub h.rb.mem.1))
  clear h F1 hb hlow hw1 hB
  go_enter Tryd.func54, Tryd.ntmps54
  go_wp2_with fail
  obtain ⟨hb, hw1⟩ := HQ.out
  rw [hw1]
  obtain ⟨b5, hb5⟩ : ∃ b5, b5 = w.heap.size := ⟨_, rfl⟩
  have HLB := Lib.hid (show (∀ s ∈ N, s < b5) ∧ kr < b5 from ⟨fun s hs => by rw [hb5]; exact HM.out.1 s (HM.out.2.1 s hs), by rw [hb5]; exact HM.out.1 kr HM.out.2.2⟩)
  rw [← hb5] at hb ⊢
  clear hb5 hw1 HQ d0
  refine region_chg (by kernel_rfl) (by kernel_rfl) [some (.pointer (some ⟨k, 0, none⟩)), some (.pointer (some ⟨b5, 2, none⟩)), some (.int .u32 fe), some (.int .i64 ea), some (.pointer (some ⟨kr, 0, none⟩)), some (.pointer (some ⟨b5, 2, none⟩)), some (.int .u32 fe), some (.int .i64 ea), some (.bool true), some (.bool true)] (TwoP w1 3 7 b5 #[.int .i64 4, .int .u32 ob, .int .u32 fe, .int .u32 nu, .int .u32 ti, .int .i32 px, .int .i32 py, .int .u32 a0, .int .u32 a1, .int .u32 a2, .int .i32 a3, .int .i32 a4, .float .f64 sp, .slice up un uc] 121 (fun W => Fr N w1 W ∧ Md W (ext M w1.heap.size W.heap.size) (ext N w1.heap.size W.heap.size) k kr rO rN F V F2 V2) (fun W => ∃ Wm, Fr N w1 Wm ∧ Fr [kr] Wm W ∧ St W (ext M w1.heap.size Wm.heap.size) (ext N w1.heap.size Wm.heap.size) k kr rO rN F2 V2)) 177 rfl (by kernel_rfl) [(0, 113), (1, 114), (2, 115), (3, 116), (4, 117), (5, 118), (6, 119), (7, 120), (8, 121), (9, 6)] (by kernel_rfl) (TwoP.start hb) ?_ ?_
  · intro q a1 W1 i hi hnq hd hG K hK
    have hlt : i < 10 := hi
    have hc : i = 0 ∨ i = 1 ∨ i = 2 ∨ i = 3 ∨ i = 4 ∨ i = 5 ∨ i = 6 ∨ i = 7 ∨ i = 8 ∨ i = 9 := by omega
    have hΨ := hG.world
    rcases hc with rfl | rfl | rfl | rfl | rfl | rfl | rfl | rfl | rfl | rfl
    · have e0 := hG.old 0 (by kernel_rfl)
      refine op_doC rfl (wanted_none rfl) hK (fun K' hK' => ?_)
      unfold Oper.wp
      go_simp
      exact hK' _ _ (fun u hu => by cases hu; rfl) (hΨ.keep (by decide) (by decide))
    · have e5 := hG.old 5 (by kernel_rfl)
      refine op_doC rfl (wanted_none rfl) hK (fun K' hK' => ?_)
      unfold Oper.wp
      go_simp
      exact hK' _ _ (fun u hu => by cases hu; rfl) (hΨ.keep (by decide) (by decide))
    · have e114 := hG.val (v := .pointer (some ⟨b5, 2, none⟩)) 1 114 (hd _ rfl ⟨1, .data⟩ (by simp) rfl) rfl rfl
      have c2 := hΨ.hb.at 2 (v := .int .u32 fe) rfl
      refine op_doC rfl (wanted_none rfl) hK (fun K' hK' => ?_)
      unfold Oper.wp
      go_simp
      exact hK' _ _ (fun u hu => by cases hu; rfl) (hΨ.keep (by decide) (by decide))
    · have e113 := hG.val (v := .pointer (some ⟨k, 0, none⟩)) 0 113 (hd _ rfl ⟨0, .data⟩ (by simp) rfl) rfl rfl
      have e115 := hG.val (v := .int .u32 fe) 2 115 (hd _ rfl ⟨2, .data⟩ (by simp) rfl) rfl rfl
      refine op_doC rfl (wanted_none rfl) hK (fun K' hK' => ?_)
      unfold Oper.wp
      go_simp
      refine (HB.out.1 W1 M N (HS.out.1.grow (hΨ.s0 hnq))).mono ?_
      rintro e W2 ⟨rfl, hk, f⟩
      have f01 := hΨ.s0 hnq
      have fN : Fr N w1 W2 := (f01.mono (by simp)).trans f (fun s hs => .inl hs)
      have hmd := HS.out.1.prog fN (hk.wider f01.size rfl (fun s hs => Nat.lt_of_lt_of_le (HS.out.1.rb.mem.2 s (HS.out.1.sub s hs)) fN.size))
      exact hK' _ _ (fun u hu => by cases hu; rfl) (hΨ.one hnq (by decide) (f.blk hΨ.hb (fun hm => absurd (HLB.out.1 _ hm) (by omega))) ⟨fN, hmd⟩)
    · have e1 := hG.old 1 (by kernel_rfl)
      refine op_doC rfl (wanted_none rfl) hK (fun K' hK' => ?_)
      unfold Oper.wp
      go_simp
      exact hK' _ _ (fun u hu => by cases hu; rfl) (hΨ.keep (by decide) (by decide))
    · have e5 := hG.old 5 (by kernel_rfl)
      refine op_doC rfl (wanted_none rfl) hK (fun K' hK' => ?_)
      unfold Oper.wp
      go_simp
      exact hK' _ _ (fun u hu => by cases hu; rfl) (hΨ.keep (by decide) (by decide))
    · have e118 := hG.val (v := .pointer (some ⟨b5, 2, none⟩)) 5 118 (hd _ rfl ⟨5, .data⟩ (by simp) rfl) rfl rfl
      have c2 := hΨ.hb.at 2 (v := .int .u32 fe) rfl
      refine op_doC rfl (wanted_none rfl) hK (fun K' hK' => ?_)
      unfold Oper.wp
      go_simp
      exact hK' _ _ (fun u hu => by cases hu; rfl) (hΨ.keep (by decide) (by decide))
    · have e117 := hG.val (v := .pointer (some ⟨kr, 0, none⟩)) 4 117 (hd _ rfl ⟨4, .data⟩ (by simp) rfl) rfl rfl
      have e119 := hG.val (v := .int .u32 fe) 6 119 (hd _ rfl ⟨6, .data⟩ (by simp) rfl) rfl rfl
      refine op_doC rfl (wanted_none rfl) hK (fun K' hK' => ?_)
      unfold Oper.wp
      go_simp
      have q3 := hd _ rfl ⟨3, .chain⟩ (by simp) rfl
      obtain ⟨fm, hmd⟩ := hΨ.s1 q3 hnq
      refine (HB.out.2 W1 _ hmd.rb).mono ?_
      rintro e W2 ⟨rfl, hr, f⟩
      exact hK' _ _ (fun u hu => by cases hu; rfl) (hΨ.two q3 (f.blk hΨ.hb (fun hm => by simp at hm; have := HLB.out.2; omega)) ⟨W1, fm, f, hmd.ref f hr⟩)
    · have e116 := hG.val (v := .int .i64 ea) 3 116 (hd _ rfl ⟨3, .data⟩ (by simp) rfl) rfl rfl
      have e120 := hG.val (v := .int .i64 ea) 7 120 (hd _ rfl ⟨7, .data⟩ (by simp) rfl) rfl rfl
      refine op_doC rfl (wanted_none rfl) hK (fun K' hK' => ?_)
      unfold Oper.wp
      go_simp
      exact hK' _ _ (fun u hu => by cases hu; rfl) (hΨ.keep (by decide) (by decide))
    · have e121 := hG.val (v := .bool true) 8 121 (hd _ rfl ⟨8, .data⟩ (by simp) rfl) rfl rfl
      refine op_doC rfl (wanted_none rfl) hK (fun K' hK' => ?_)
      unfold Oper.wp
      go_simp
      exact hK' _ _ (fun u hu => by cases hu; rfl) (hΨ.keep (by decide) (by decide))
  · intro vs q W1 hq hΨ hv
    have r0 : vs 0 = .pointer (some ⟨k, 0, none⟩) := hv 0 113 _ (by decide) rfl rfl
    have r1 : vs 1 = .pointer (some ⟨b5, 2, none⟩) := hv 1 114 _ (by decide) rfl rfl
    have r2 : vs 2 = .int .u32 fe := hv 2 115 _ (by decide) rfl rfl
    have r3 : vs 3 = .int .i64 ea := hv 3 116 _ (by decide) rfl rfl
    have r4 : vs 4 = .pointer (some ⟨kr, 0, none⟩) := hv 4 117 _ (by decide) rfl rfl
    have r5 : vs 5 = .pointer (some ⟨b5, 2, none⟩) := hv 5 118 _ (by decide) rfl rfl
    have r6 : vs 6 = .int .u32 fe := hv 6 119 _ (by decide) rfl rfl
    have r7 : vs 7 = .int .i64 ea := hv 7 120 _ (by decide) rfl rfl
    have r8 : vs 8 = .bool true := hv 8 121 _ (by decide) rfl rfl
    have r9 : vs 9 = .bool true := hv 9 6 _ (by decide) rfl rfl
    simp only [lay, List.foldl_cons, List.foldl_nil, r0, r1, r2, r3, r4, r5, r6, r7, r8, r9] at hΨ ⊢
    simp only [List.setIfInBounds_toArray, List.set_cons_zero, List.set_cons_succ] at hΨ ⊢
    clear hv r0 r1 r2 r3 r4 r5 r6 r7 r8 r9
    obtain ⟨-, Wm, f1, f2, hst⟩ := hΨ.s2 (hq 7 (by decide))
    go_wp2_with fail
    exact bodyPost_ret (v := .bool true) (by simp [results, Tryd.results54, go_sem]) rfl (ChPost.mk HS.out.1 HS.out.2 f1 f2 hst)
set_option maxRecDepth 100000 in
set_option maxHeartbeats 2000000 in
theorem chg_drop (w : World) (M N : List Nat) (k kr rO rN : Nat) (F : List Int) (V : List VO) (ob fe nu ti px py a0 a1 a2 a3 a4 : Int) (sp : Nat) (up : Option Addr) (un uc : Nat) (h : St w M N k kr rO rN F V) (hob : U32 ob) (hfe : U32 fe) :
    Calls Tryd.prog 54 #[.pointer (some ⟨k, 0, none⟩), .pointer (some ⟨kr, 0, none⟩), .agg #[.int .i64 5, .int .u32 ob, .int .u32 fe, .int .u32 nu, .int .u32 ti, .int .i32 px, .int .i32 py, .int .u32 a0, .int .u32 a1, .int .u32 a2, .int .i32 a3, .int .i32 a4, .float .f64 sp, .slice up un uc]] w (ChPost w M N k kr rO rN) := by
  obtain ⟨w1, hw1⟩ : ∃ w1, w.alloc (.cells #[.int .i64 5, .int .u32 ob, .int .u32 fe, .int .u32 nu, .int .u32 ti, .int .i32 px, .int .i32 py, .int .u32 a0, .int .u32 a1, .int .u32 a2, .int .i32 a3, .int .i32 a4, .float .f64 sp, .slice up un uc] 121) = w1 := ⟨_, rfl⟩
  have F1 : Fr [] w w1 := by rw [← hw1]; exact (Fr.refl _ _).alloc _
  have hb : Blk w1 w.heap.size #[.int .i64 5, .int .u32 ob, .int .u32 fe, .int .u32 nu, .int .u32 ti, .int .i32 px, .int .i32 py, .int .u32 a0, .int .u32 a1, .int .u32 a2, .int .i32 a3, .int .i32 a4, .float .f64 sp, .slice up un uc] 121 := by rw [← hw1]; exact Blk.new w _ _
  have hlow : ∀ s ∈ M, s < w.heap.size := h.rb.mem.2
  have d0 := hb.at 0 (v := .int .i64 5) rfl
  rw [← hw1] at d0
  obtain ⟨F2, V2, hB⟩ : ∃ F2 V2, Both1 122 123 (.int .u32 fe) k kr rO rN F V (.bool (decide (fe ∈ F))) F2 V2 := ⟨_, _, both_drop k kr rO rN F V fe hfe⟩
  have HB := Lib.hid hB
  have HS := Lib.hid (And.intro (h.grow F1) F1)
  have HQ := Lib.hid (And.intro hb hw1)
  have HM := Lib.hid (And.intro hlow (And.intro h.sub h.rb.mem.1))
  clear h F1 hb hlow hw1 hB
  go_enter Tryd.func54, Tryd.ntmps54
  go_wp2_with fail
  obtain ⟨hb, hw1⟩ := HQ.out
  rw [hw1]
  obtain ⟨b5, hb5⟩ : ∃ b5, b5 = w.heap.size := ⟨_, rfl⟩
  have HLB := Lib.hid (show (∀ s ∈ N, s < b5) ∧ kr < b5 from ⟨fun s hs => by rw [hb5]; exact HM.out.1 s (HM.out.2.1 s hs), by rw [hb5]; exact HM.out.1 kr HM.out.2.2⟩)
  rw [← hb5] at hb ⊢
  clear hb5 hw1 HQ d0
  refine region_chg (by kernel_rfl) (by kernel_rfl) [some (.pointer (some ⟨k, 0, none⟩)), some (.pointer (some ⟨b5, 2, none⟩)), some (.int .u32 fe), some (.bool (decide (fe ∈ F))), some (.pointer (some ⟨kr, 0, none⟩)), some (.pointer (some ⟨b5, 2, none⟩)), some (.int .u32 fe), some (.bool (decide (fe ∈ F))), some (.bool true), some (.bool true)] (TwoP w1 3 7 b5 #[.int .i64 5, .int .u32 ob, .int .u32 fe, .int .u32 nu, .int .u32 ti, .int .i32 px, .int .i32 py, .int .u32 a0, .int .u32 a1, .int .u32 a2, .int .i32 a3, .int .i32 a4, .float .f64 sp, .slice up un uc] 121 (fun W => Fr N w1 W ∧ Md W (ext M w1.heap.size W.heap.size) (ext N w1.heap.size W.heap.size) k kr rO rN F V F2 V2) (fun W => ∃ Wm, Fr N w1 Wm ∧ Fr [kr] Wm W ∧ St W (ext M w1.heap.size Wm.heap.size) (ext N w1.heap.size Wm.heap.size) k kr rO rN F2 V2)) 177 rfl (by kernel_rfl) [(0, 124), (1, 125), (2, 126), (3, 127), (4, 128), (5, 129), (6, 130), (7, 131), (8, 132), (9, 6)] (by kernel_rfl) (TwoP.start hb) ?_ ?_
  · intro q a1 W1 i hi hnq hd hG K hK
    have hlt : i < 10 := hi
    have hc : i = 0 ∨ i = 1 ∨ i = 2 ∨ i = 3 ∨ i = 4 ∨ i = 5 ∨ i = 6 ∨ i = 7 ∨ i = 8 ∨ i = 9 := by omega
    have hΨ := hG.world
    rcases hc with rfl | rfl | rfl | rfl | rfl | rfl | rfl | rfl | rfl | rfl
    · have e0 := hG.old 0 (by kernel_rfl)
      refine op_doC rfl (wanted_none rfl) hK (fun K' hK' => ?_)
      unfold Oper.wp
      go_simp
      exact hK' _ _ (fun u hu => by cases hu; rfl) (hΨ.keep (by decide) (by decide))
    · have e5 := hG.old 5 (by kernel_rfl)
      refine op_doC rfl (wanted_none rfl) hK (fun K' hK' => ?_)
      unfold Oper.wp
      go_simp
      exact hK' _ _ (fun u hu => by cases hu; rfl) (hΨ.keep (by decide) (by decide))
    · have e125 := hG.val (v := .pointer (some ⟨b5, 2, none⟩)) 1 125 (hd _ rfl ⟨1, .data⟩ (by simp) rfl) rfl rfl
      have c2 := hΨ.hb.at 2 (v := .int .u32 fe) rfl
      refine op_doC rfl (wanted_none rfl) hK (fun K' hK' => ?_)
      unfold Oper.wp
      go_simp
      exact hK' _ _ (fun u hu => by cases hu; rfl) (hΨ.keep (by decide) (by decide))
    · have e124 := hG.val (v := .pointer (some ⟨k, 0, none⟩)) 0 124 (hd _ rfl ⟨0, .data⟩ (by simp) rfl) rfl rfl
      have e126 := hG.val (v := .int .u32 fe) 2 126 (hd _ rfl ⟨2, .data⟩ (by simp) rfl) rfl rfl
      refine op_doC rfl (wanted_none rfl) hK (fun K' hK' => ?_)
      unfold Oper.wp
      go_simp
      refine (HB.out.1 W1 M N (HS.out.1.grow (hΨ.s0 hnq))).mono ?_
      rintro e W2 ⟨rfl, hk, f⟩
      have f01 := hΨ.s0 hnq
      have fN : Fr N w1 W2 := (f01.mono (by simp)).trans f (fun s hs => .inl hs)
      have hmd := HS.out.1.prog fN (hk.wider f01.size rfl (fun s hs => Nat.lt_of_lt_of_le (HS.out.1.rb.mem.2 s (HS.out.1.sub s hs)) fN.size))
      exact hK' _ _ (fun u hu => by cases hu; rfl) (hΨ.one hnq (by decide) (f.blk hΨ.hb (fun hm => absurd (HLB.out.1 _ hm) (by omega))) ⟨fN, hmd⟩)
    · have e1 := hG.old 1 (by kernel_rfl)
      refine op_doC rfl (wanted_none rfl) hK (fun K' hK' => ?_)
      unfold Oper.wp
      go_simp
      exact hK' _ _ (fun u hu => by cases hu; rfl) (hΨ.keep (by decide) (by decide))
    · have e5 := hG.old 5 (by kernel_rfl)
      refine op_doC rfl (wanted_none rfl) hK (fun K' hK' => ?_)
      unfold Oper.wp
      go_simp
      exact hK' _ _ (fun u hu => by cases hu; rfl) (hΨ.keep (by decide) (by decide))
    · have e129 := hG.val (v := .pointer (some ⟨b5, 2, none⟩)) 5 129 (hd _ rfl ⟨5, .data⟩ (by simp) rfl) rfl rfl
      have c2 := hΨ.hb.at 2 (v := .int .u32 fe) rfl
      refine op_doC rfl (wanted_none rfl) hK (fun K' hK' => ?_)
      unfold Oper.wp
      go_simp
      exact hK' _ _ (fun u hu => by cases hu; rfl) (hΨ.keep (by decide) (by decide))
    · have e128 := hG.val (v := .pointer (some ⟨kr, 0, none⟩)) 4 128 (hd _ rfl ⟨4, .data⟩ (by simp) rfl) rfl rfl
      have e130 := hG.val (v := .int .u32 fe) 6 130 (hd _ rfl ⟨6, .data⟩ (by simp) rfl) rfl rfl
      refine op_doC rfl (wanted_none rfl) hK (fun K' hK' => ?_)
      unfold Oper.wp
      go_simp
      have q3 := hd _ rfl ⟨3, .chain⟩ (by simp) rfl
      obtain ⟨fm, hmd⟩ := hΨ.s1 q3 hnq
      refine (HB.out.2 W1 _ hmd.rb).mono ?_
      rintro e W2 ⟨rfl, hr, f⟩
      exact hK' _ _ (fun u hu => by cases hu; rfl) (hΨ.two q3 (f.blk hΨ.hb (fun hm => by simp at hm; have := HLB.out.2; omega)) ⟨W1, fm, f, hmd.ref f hr⟩)
    · have e127 := hG.val (v := .bool (decide (fe ∈ F))) 3 127 (hd _ rfl ⟨3, .data⟩ (by simp) rfl) rfl rfl
      have e131 := hG.val (v := .bool (decide (fe ∈ F))) 7 131 (hd _ rfl ⟨7, .data⟩ (by simp) rfl) rfl rfl
      refine op_doC rfl (wanted_none rfl) hK (fun K' hK' => ?_)
      unfold Oper.wp
      go_simp
      exact hK' _ _ (fun u hu => by cases hu; rfl) (hΨ.keep (by decide) (by decide))
    · have e132 := hG.val (v := .bool true) 8 132 (hd _ rfl ⟨8, .data⟩ (by simp) rfl) rfl rfl
      refine op_doC rfl (wanted_none rfl) hK (fun K' hK' => ?_)
      unfold Oper.wp
      go_simp
      exact hK' _ _ (fun u hu => by cases hu; rfl) (hΨ.keep (by decide) (by decide))
  · intro vs q W1 hq hΨ hv
    have r0 : vs 0 = .pointer (some ⟨k, 0, none⟩) := hv 0 124 _ (by decide) rfl rfl
    have r1 : vs 1 = .pointer (some ⟨b5, 2, none⟩) := hv 1 125 _ (by decide) rfl rfl
    have r2 : vs 2 = .int .u32 fe := hv 2 126 _ (by decide) rfl rfl
    have r3 : vs 3 = .bool (decide (fe ∈ F)) := hv 3 127 _ (by decide) rfl rfl
    have r4 : vs 4 = .pointer (some ⟨kr, 0, none⟩) := hv 4 128 _ (by decide) rfl rfl
    have r5 : vs 5 = .pointer (some ⟨b5, 2, none⟩) := hv 5 129 _ (by decide) rfl rfl
    have r6 : vs 6 = .int .u32 fe := hv 6 130 _ (by decide) rfl rfl
    have r7 : vs 7 = .bool (decide (fe ∈ F)) := hv 7 131 _ (by decide) rfl rfl
    have r8 : vs 8 = .bool true := hv 8 132 _ (by decide) rfl rfl
    have r9 : vs 9 = .bool true := hv 9 6 _ (by decide) rfl rfl
    simp only [lay, List.foldl_cons, List.foldl_nil, r0, r1, r2, r3, r4, r5, r6, r7, r8, r9] at hΨ ⊢
    simp only [List.setIfInBounds_toArray, List.set_cons_zero, List.set_cons_succ] at hΨ ⊢
    clear hv r0 r1 r2 r3 r4 r5 r6 r7 r8 r9
    obtain ⟨-, Wm, f1, f2, hst⟩ := hΨ.s2 (hq 7 (by decide))
    go_wp2_with fail
    exact bodyPost_ret (v := .bool true) (by simp [results, Tryd.results54, go_sem]) rfl (ChPost.mk HS.out.1 HS.out.2 f1 f2 hst)
end Go.Proofs.YtgoolkgjcmdilaaDoor
end
