/-
  Tb, part 30 of 36: the texts Ask.
-/
import Derived.Test.YtgoolkgjcmdilaaDoorTb29
section
namespace Go.Proofs.YtgoolkgjcmdilaaDoor
open Go.RowKit Flo
set_option linter.unusedVariables false
set_option linter.unusedSimpArgs false
attribute [local go_sem] Oper.semAt_some
/-- Both books, side by side: N is what the program's owns, M what may turn. -/
structure St (w : World) (M N : List Nat) (k kr rO rN : Nat) (F : List Int) (V : List VO) : Prop where
  kb : KBF w N k rO rN F V
  rb : RBook w M kr rO rN F V
  sub : ∀ s ∈ N, s ∈ M
  out : kr ∉ N
  deb : Firm M w DeB
section
variable {w w' : World} {M N : List Nat} {k kr rO rN : Nat} {F : List Int} {V : List VO}
theorem St.grow (h : St w M N k kr rO rN F V) (f : Fr [] w w') : St w' M N k kr rO rN F V := ⟨h.kb.grow f, h.rb.grow f, h.sub, h.out, h.deb.grow f⟩
theorem KBF.lens (h : KBF w N k rO rN F V) : V.length ≤ rO ∧ rO ≤ 64 ∧ F.length ≤ rN ∧ rN ≤ 64 ∧ ∀ o ∈ V, o.ids.length ≤ 64 := by
  obtain ⟨Fs, rfl, bO, bN, bP, v, u, vP, BP, Cs, h, hV⟩ := h
  have h1 := h.lC
  have h2 := hV.len
  have h3 := h.hN.lim.1
  have h4 := h.m0
  have h5 := h.mN
  refine ⟨by omega, h4, by rw [List.length_map]; omega, h5, fun o ho => ?_⟩
  obtain ⟨c, hc, hk⟩ := hV.right ho
  rw [hk.ids]
  have := idsOf_len Fs c.B
  omega
theorem posV_case (V : List VO) (id : Int) : posV V id < 0 ∨ ∃ (r : Nat) (o : VO), posV V id = r ∧ V[r]? = some o := by
  rcases posV_range V id with q | ⟨q1, q2⟩
  · exact .inl (by omega)
  · have hl : (posV V id).toNat < V.length := by omega
    exact .inr ⟨(posV V id).toNat, _, by omega, List.getElem?_eq_getElem hl⟩
end
theorem own_rdf {w : World} {v : Value} {l : List Int} (h : w.ownsRow 0 33 1 v l.length (u32v l)) (hl : l.length ≤ 65536) : IdS w v l := RdF.of_own (by decide) h (by unfold maxLen; omega)
/-- What is written over a list that was told. -/
structure Spoil (W wr : World) (v : Value) : Prop where
  fr : Fr v.ownBlock.toList W wr
  bl : ∀ t ∈ v.ownBlock.toList, ∃ c c', Blk W t c 33 ∧ Blk wr t c' 33 ∧ c'.size = c.size
theorem Spoil.start {W : World} {v : Value} {n : Nat} {xs : List Value} (h : W.ownsRow 0 33 1 v n xs) : Spoil W W v := ⟨Fr.refl _ _, fun t ht => by
  obtain ⟨cc, hcc⟩ := own_blk h t ht
  exact ⟨cc, cc, hcc, hcc, rfl⟩⟩
theorem Spoil.at {W wr : World} {p : Option Addr} {n c : Nat} {xs : List Value} (h : W.ownsRow 0 33 1 (.slice p n c) n xs) (hs : Spoil W wr (.slice p n c)) {j : Nat} (hj : j < n) :
    ∃ g, p = some ⟨g, 0, none⟩ ∧ (∃ u, wr.cell? ⟨g, j, none⟩ = some u) ∧ wr.frozen? ⟨g, j, none⟩ = false ∧ ∀ v, Spoil W (wr.setCell ⟨g, j, none⟩ v) (.slice p n c) := by
  rcases h.2 with ⟨_, h9⟩ | ⟨g, cap, cc, h9, _, hgg, hle, _, hsz, _⟩
  · omega
  · obtain ⟨rfl, -, rfl⟩ := Value.slice.inj h9
    obtain ⟨c1, c2, q1, q2, q3⟩ := hs.bl g (by simp [Value.ownBlock])
    have hsame := ((show Blk W g cc 33 from hgg).inj q1).1
    have hjc : j < c2.size := by subst hsame; omega
    refine ⟨g, rfl, ⟨_, q2.at j (Array.getElem?_eq_getElem hjc)⟩, q2.free j, fun v => ⟨hs.fr.setCell _ _ (.inl (by simp [Value.ownBlock])), fun t ht => ?_⟩⟩
    have ht' : t = g := by simp [Value.ownBlock] at ht; omega
    subst ht'
    exact ⟨c1, _, q1, q2.set j v, by simpa using q3⟩
def Stab.keptv (n0 nw cw : Nat) (pw : Option Addr) (V : List VO) : Stab := ⟨fun u W => ∃ bl v L, u = .agg #[.func (.func 111) #[] #[.pointer (some ⟨bl, 0, none⟩)], .slice pw nw cw] ∧ KHeld bl v L V W, fun u W W' f h => by
  obtain ⟨bl, v, L, h1, h2⟩ := h
  exact ⟨bl, v, L, h1, h2.fr0 f⟩⟩
def Stab.allv (V : List VO) : Stab := ⟨fun u W => ∃ bl v L, u = .func (.func 111) #[] #[.pointer (some ⟨bl, 0, none⟩)] ∧ KHeld bl v L V W, fun u W W' f h => by
  obtain ⟨bl, v, L, h1, h2⟩ := h
  exact ⟨bl, v, L, h1, h2.fr0 f⟩⟩
theorem AllKP.held {w w' : World} {V : List VO} {e : Ending} (h : AllKP w V e w') : ∃ bl v L, e = .returned (.func (.func 111) #[] #[.pointer (some ⟨bl, 0, none⟩)]) ∧ KHeld bl v L V w' ∧ Fr [] w w' ∧ (∀ g, g ∈ kblks bl v L → w.heap.size ≤ g) := by
  obtain ⟨bl, v, L, rfl, h1, h2, h3, h4⟩ := h
  refine ⟨bl, v, L, rfl, ⟨h2, h3.own, h4.mono fun x o _ _ hk => ⟨hk.id, hk.num, hk.t, hk.px, hk.py, hk.sp, hk.own, fun _ _ => Nat.zero_le _⟩⟩, h3.fr, fun g hg => ?_⟩
  unfold kblks at hg
  rcases List.mem_append.1 hg with hg | hg
  · rcases List.mem_cons.1 hg with rfl | hg
    · exact h1
    · exact h3.low g (by simpa using hg)
  · obtain ⟨x, hx, hg⟩ := List.mem_flatMap.1 hg
    obtain ⟨o, _, hk⟩ := h4.left hx
    exact hk.low g (by simpa using hg)
set_option maxRecDepth 100000 in
set_option maxHeartbeats 2000000 in
theorem asks_else (w : World) (M N : List Nat) (k kr rO rN : Nat) (F : List Int) (V : List VO) (kd ob fe nu ti px py a0 a1 a2 a3 a4 : Int) (sp : Nat) (up : Option Addr) (un uc : Nat) (h : St w M N k kr rO rN F V) (hob : U32 ob) (hfe : U32 fe) (h8 : kd ≠ 8) (h9 : kd ≠ 9) (h10 : kd ≠ 10) (h11 : kd ≠ 11) :
    Calls Tryd.prog 53 #[.pointer (some ⟨k, 0, none⟩), .pointer (some ⟨kr, 0, none⟩), .agg #[.int .i64 kd, .int .u32 ob, .int .u32 fe, .int .u32 nu, .int .u32 ti, .int .i32 px, .int .i32 py, .int .u32 a0, .int .u32 a1, .int .u32 a2, .int .i32 a3, .int .i32 a4, .float .f64 sp, .slice up un uc]] w fun e w' => e = .returned (.bool true) ∧ Fr [] w w' := by
  obtain ⟨w1, hw1⟩ : ∃ w1, w.alloc (.cells #[.int .i64 kd, .int .u32 ob, .int .u32 fe, .int .u32 nu, .int .u32 ti, .int .i32 px, .int .i32 py, .int .u32 a0, .int .u32 a1, .int .u32 a2, .int .i32 a3, .int .i32 a4, .float .f64 sp, .slice up un uc] 121) = w1 := ⟨_, rfl⟩
  have F1 : Fr [] w w1 := by rw [← hw1]; exact (Fr.refl _ _).alloc _
  have hb : Blk w1 w.heap.size #[.int .i64 kd, .int .u32 ob, .int .u32 fe, .int .u32 nu, .int .u32 ti, .int .i32 px, .int .i32 py, .int .u32 a0, .int .u32 a1, .int .u32 a2, .int .i32 a3, .int .i32 a4, .float .f64 sp, .slice up un uc] 121 := by rw [← hw1]; exact Blk.new w _ _
  have d1 := hb.at 1 (v := .int .u32 ob) rfl
  have d0 := hb.at 0 (v := .int .i64 kd) rfl
  rw [← hw1] at d0 d1
  have HR := Lib.hid (rfind w1 M kr rO rN F V ob (h.rb.grow F1))
  have HL := Lib.hid h.kb.lens
  have HS := Lib.hid (And.intro (h.grow F1) (And.intro F1 (And.intro hb hw1)))
  clear h F1 hb hw1
  go_enter Tryd.func53, Tryd.ntmps53
  go_wp2_with fail
  obtain ⟨h, F1, hb, hw1⟩ := HS.out
  rw [hw1] at d0 d1 ⊢
  clear hw1 HS
  (with_reducible refine (HR.out).mono ?_)
  rintro e w2 ⟨rfl, rfl⟩
  obtain ⟨b5, hb5⟩ : ∃ b5, b5 = w.heap.size := ⟨_, rfl⟩
  have hwb : w.heap.size ≤ b5 := by omega
  have hbl : b5 < w1.heap.size := by have := hb.lt; omega
  rw [← hb5] at d0 d1 hb ⊢
  clear hb5 HR
  have d2 := hb.at 2 (v := .int .u32 fe) rfl
  have HF := Lib.hid F1
  clear h F1 hb
  go_wp2_with fail
  refine bodyPost_ret (v := .bool true) (by simp [results, Tryd.results53, go_sem]) rfl ⟨rfl, HF.out⟩
set_option maxRecDepth 100000 in
set_option maxHeartbeats 2000000 in
theorem asks_in_no (w : World) (M N : List Nat) (k kr rO rN : Nat) (F : List Int) (V : List VO) (ob fe nu ti px py a0 a1 a2 a3 a4 : Int) (sp : Nat) (up : Option Addr) (un uc : Nat) (h : St w M N k kr rO rN F V) (hob : U32 ob) (hfe : U32 fe) (hz : posV V ob < 0) :
    Calls Tryd.prog 53 #[.pointer (some ⟨k, 0, none⟩), .pointer (some ⟨kr, 0, none⟩), .agg #[.int .i64 8, .int .u32 ob, .int .u32 fe, .int .u32 nu, .int .u32 ti, .int .i32 px, .int .i32 py, .int .u32 a0, .int .u32 a1, .int .u32 a2, .int .i32 a3, .int .i32 a4, .float .f64 sp, .slice up un uc]] w fun e w' => e = .returned (.bool true) ∧ Fr [] w w' := by
  obtain ⟨w1, hw1⟩ : ∃ w1, w.alloc (.cells #[.int .i64 8, .int .u32 ob, .int .u32 fe, .int .u32 nu, .int .u32 ti, .int .i32 px, .int .i32 py, .int .u32 a0, .int .u32 a1, .int .u32 a2, .int .i32 a3, .int .i32 a4, .float .f64 sp, .slice up un uc] 121) = w1 := ⟨_, rfl⟩
  have F1 : Fr [] w w1 := by rw [← hw1]; exact (Fr.refl _ _).alloc _
  have hb : Blk w1 w.heap.size #[.int .i64 8, .int .u32 ob, .int .u32 fe, .int .u32 nu, .int .u32 ti, .int .i32 px, .int .i32 py, .int .u32 a0, .int .u32 a1, .int .u32 a2, .int .i32 a3, .int .i32 a4, .float .f64 sp, .slice up un uc] 121 := by rw [← hw1]; exact Blk.new w _ _
  have d1 := hb.at 1 (v := .int .u32 ob) rfl
  have d0 := hb.at 0 (v := .int .i64 8) rfl
  rw [← hw1] at d0 d1
  have HR := Lib.hid (rfind w1 M kr rO rN F V ob (h.rb.grow F1))
  have HL := Lib.hid h.kb.lens
  have HZ := Lib.hid hz
  have HS := Lib.hid (And.intro (h.grow F1) (And.intro F1 (And.intro hb hw1)))
  clear h F1 hb hw1
  go_enter Tryd.func53, Tryd.ntmps53
  go_wp2_with fail
  obtain ⟨h, F1, hb, hw1⟩ := HS.out
  rw [hw1] at d0 d1 ⊢
  clear hw1 HS
  (with_reducible refine (HR.out).mono ?_)
  rintro e w2 ⟨rfl, rfl⟩
  obtain ⟨b5, hb5⟩ : ∃ b5, b5 = w.heap.size := ⟨_, rfl⟩
  have hwb : w.heap.size ≤ b5 := by omega
  have hbl : b5 < w1.heap.size := by have := hb.lt; omega
  rw [← hb5] at d0 d1 hb ⊢
  clear hb5 HR
  have d2 := hb.at 2 (v := .int .u32 fe) rfl
  obtain ⟨z, hz2⟩ : ∃ z, z = posV V ob := ⟨_, rfl⟩
  rw [← hz2] at hz ⊢
  clear hz2
  go_wp2_with fail
  refine region_grow (by kernel_rfl) (by kernel_rfl) [.is (.pointer (some ⟨k, 0, none⟩)), .is (.pointer (some ⟨b5, 1, none⟩)), .is (.int .u32 ob), .is (.pointer (some ⟨b5, 2, none⟩)), .is (.int .u32 fe), .is (.bool false), .is (.int .i64 z), .is (.bool false), .is (.bool false), .is (undef), .is (undef), .is (undef), .is (undef), .is (undef), .is (undef), .is (undef), .is (undef), .is (undef), .is (undef), .is (undef), .is (.bool false), .is (.bool true), .is (.bool true)] 168 rfl (by kernel_rfl) [(0, 27), (1, 28), (2, 29), (3, 30), (4, 31), (5, 32), (6, 33), (7, 34), (8, 35), (9, 36), (10, 37), (11, 38), (12, 39), (13, 40), (14, 41), (15, 42), (16, 43), (17, 44), (18, 45), (19, 46), (20, 47), (21, 48), (22, 6)] (by kernel_rfl) ?_ ?_
  · intro q a1 W1 i hi hnq hd hG K hK
    have hlt : i < 23 := hi
    have hc : i = 0 ∨ i = 1 ∨ i = 2 ∨ i = 3 ∨ i = 4 ∨ i = 5 ∨ i = 6 ∨ i = 7 ∨ i = 8 ∨ i = 9 ∨ i = 10 ∨ i = 11 ∨ i = 12 ∨ i = 13 ∨ i = 14 ∨ i = 15 ∨ i = 16 ∨ i = 17 ∨ i = 18 ∨ i = 19 ∨ i = 20 ∨ i = 21 ∨ i = 22 := by omega
    rcases hc with rfl | rfl | rfl | rfl | rfl | rfl | rfl | rfl | rfl | rfl | rfl | rfl | rfl | rfl | rfl | rfl | rfl | rfl | rfl | rfl | rfl | rfl | rfl
    · have e0 := hG.old 0 (by kernel_rfl)
      refine op_do rfl (wanted_none rfl) hK (fun K' hK' => ?_)
      unfold Oper.wp
      go_simp
      exact hK' _ _ (Fr.refl _ _) rfl
    · have e5 := hG.old 5 (by kernel_rfl)
      refine op_do rfl (wanted_none rfl) hK (fun K' hK' => ?_)
      unfold Oper.wp
      go_simp
      exact hK' _ _ (Fr.refl _ _) rfl
    · have e28 := hG.val (v := .pointer (some ⟨b5, 1, none⟩)) 1 28 (hd _ rfl ⟨1, .data⟩ (by simp) rfl) rfl rfl
      have c1 := (hG.grown.blk hb (by simp)).at 1 (v := .int .u32 ob) rfl
      refine op_do rfl (wanted_none rfl) hK (fun K' hK' => ?_)
      unfold Oper.wp
      go_simp
      exact hK' _ _ (Fr.refl _ _) rfl
    · have e5 := hG.old 5 (by kernel_rfl)
      refine op_do rfl (wanted_none rfl) hK (fun K' hK' => ?_)
      unfold Oper.wp
      go_simp
      exact hK' _ _ (Fr.refl _ _) rfl
    · have e30 := hG.val (v := .pointer (some ⟨b5, 2, none⟩)) 3 30 (hd _ rfl ⟨3, .data⟩ (by simp) rfl) rfl rfl
      have c2 := (hG.grown.blk hb (by simp)).at 2 (v := .int .u32 fe) rfl
      refine op_do rfl (wanted_none rfl) hK (fun K' hK' => ?_)
      unfold Oper.wp
      go_simp
      exact hK' _ _ (Fr.refl _ _) rfl
    · have e27 := hG.val (v := .pointer (some ⟨k, 0, none⟩)) 0 27 (hd _ rfl ⟨0, .data⟩ (by simp) rfl) rfl rfl
      have e29 := hG.val (v := .int .u32 ob) 2 29 (hd _ rfl ⟨2, .data⟩ (by simp) rfl) rfl rfl
      have e31 := hG.val (v := .int .u32 fe) 4 31 (hd _ rfl ⟨4, .data⟩ (by simp) rfl) rfl rfl
      refine op_do rfl (wanted_none rfl) hK (fun K' hK' => ?_)
      unfold Oper.wp
      go_simp
      refine (kbin (w := W1) ob fe (h.kb.grow hG.grown) hob hfe false (.inl ⟨HZ.out, rfl⟩)).mono ?_
      rintro e W2 ⟨rfl, f⟩
      exact hK' _ _ f rfl
    · have e7 := hG.old 7 (by kernel_rfl)
      refine op_do rfl (wanted_none rfl) hK (fun K' hK' => ?_)
      unfold Oper.wp
      go_simp
      exact hK' _ _ (Fr.refl _ _) rfl
    · have e33 := hG.val (v := .int .i64 z) 6 33 (hd _ rfl ⟨6, .data⟩ (by simp) rfl) rfl rfl
      have l0 : ¬ (0 : Int) ≤ z := by omega
      refine op_do rfl (wanted_none rfl) hK (fun K' hK' => ?_)
      unfold Oper.wp
      go_simp
      exact hK' _ _ (Fr.refl _ _) rfl
    · have e34 := hG.val (v := .bool false) 7 34 (hd _ rfl ⟨7, .data⟩ (by simp) rfl) rfl rfl
      refine op_do rfl (wanted_none rfl) hK (fun K' hK' => ?_)
      unfold Oper.wp
      go_simp
      exact hK' _ _ (Fr.refl _ _) rfl
    · have e1 := hG.old 1 (by kernel_rfl)
      have eg := hG.val (v := .bool false) 8 35 (hd _ rfl ⟨8, .guard⟩ (by simp) rfl) rfl rfl
      exact op_skip rfl (by simp [Region.wanted, yielded, eg]) hK rfl
    · have e36 := hG.val (v := undef) 9 36 (hd _ rfl ⟨9, .data⟩ (by simp) rfl) rfl rfl
      have eg := hG.val (v := .bool false) 8 35 (hd _ rfl ⟨8, .guard⟩ (by simp) rfl) rfl rfl
      exact op_skip rfl (by simp [Region.wanted, yielded, eg]) hK rfl
    · have e37 := hG.val (v := undef) 10 37 (hd _ rfl ⟨10, .data⟩ (by simp) rfl) rfl rfl
      have eg := hG.val (v := .bool false) 8 35 (hd _ rfl ⟨8, .guard⟩ (by simp) rfl) rfl rfl
      exact op_skip rfl (by simp [Region.wanted, yielded, eg]) hK rfl
    · have e38 := hG.val (v := undef) 11 38 (hd _ rfl ⟨11, .data⟩ (by simp) rfl) rfl rfl
      have eg := hG.val (v := .bool false) 8 35 (hd _ rfl ⟨8, .guard⟩ (by simp) rfl) rfl rfl
      exact op_skip rfl (by simp [Region.wanted, yielded, eg]) hK rfl
    · have e7 := hG.old 7 (by kernel_rfl)
      have eg := hG.val (v := .bool false) 8 35 (hd _ rfl ⟨8, .guard⟩ (by simp) rfl) rfl rfl
      exact op_skip rfl (by simp [Region.wanted, yielded, eg]) hK rfl
    · have e39 := hG.val (v := undef) 12 39 (hd _ rfl ⟨12, .data⟩ (by simp) rfl) rfl rfl
      have e40 := hG.val (v := undef) 13 40 (hd _ rfl ⟨13, .data⟩ (by simp) rfl) rfl rfl
      have eg := hG.val (v := .bool false) 8 35 (hd _ rfl ⟨8, .guard⟩ (by simp) rfl) rfl rfl
      exact op_skip rfl (by simp [Region.wanted, yielded, eg]) hK rfl
    · have e41 := hG.val (v := undef) 14 41 (hd _ rfl ⟨14, .data⟩ (by simp) rfl) rfl rfl
      have eg := hG.val (v := .bool false) 8 35 (hd _ rfl ⟨8, .guard⟩ (by simp) rfl) rfl rfl
      exact op_skip rfl (by simp [Region.wanted, yielded, eg]) hK rfl
    · have e42 := hG.val (v := undef) 15 42 (hd _ rfl ⟨15, .data⟩ (by simp) rfl) rfl rfl
      have eg := hG.val (v := .bool false) 8 35 (hd _ rfl ⟨8, .guard⟩ (by simp) rfl) rfl rfl
      exact op_skip rfl (by simp [Region.wanted, yielded, eg]) hK rfl
    · have e5 := hG.old 5 (by kernel_rfl)
      have eg := hG.val (v := .bool false) 8 35 (hd _ rfl ⟨8, .guard⟩ (by simp) rfl) rfl rfl
      exact op_skip rfl (by simp [Region.wanted, yielded, eg]) hK rfl
    · have e44 := hG.val (v := undef) 17 44 (hd _ rfl ⟨17, .data⟩ (by simp) rfl) rfl rfl
      have eg := hG.val (v := .bool false) 8 35 (hd _ rfl ⟨8, .guard⟩ (by simp) rfl) rfl rfl
      exact op_skip rfl (by simp [Region.wanted, yielded, eg]) hK rfl
    · have e43 := hG.val (v := undef) 16 43 (hd _ rfl ⟨16, .data⟩ (by simp) rfl) rfl rfl
      have e45 := hG.val (v := undef) 18 45 (hd _ rfl ⟨18, .data⟩ (by simp) rfl) rfl rfl
      have eg := hG.val (v := .bool false) 8 35 (hd _ rfl ⟨8, .guard⟩ (by simp) rfl) rfl rfl
      exact op_skip rfl (by simp [Region.wanted, yielded, eg]) hK rfl
    · have e35 := hG.val (v := .bool false) 8 35 (hd _ rfl ⟨8, .data⟩ (by simp) rfl) rfl rfl
      have e46 := hG.val (v := undef) 19 46 (hd _ rfl ⟨19, .data⟩ (by simp) rfl) rfl rfl
      refine op_do rfl (wanted_none rfl) hK (fun K' hK' => ?_)
      unfold Oper.wp
      go_simp
      exact hK' _ _ (Fr.refl _ _) rfl
    · have e32 := hG.val (v := .bool false) 5 32 (hd _ rfl ⟨5, .data⟩ (by simp) rfl) rfl rfl
      have e47 := hG.val (v := .bool false) 20 47 (hd _ rfl ⟨20, .data⟩ (by simp) rfl) rfl rfl
      refine op_do rfl (wanted_none rfl) hK (fun K' hK' => ?_)
      unfold Oper.wp
      go_simp
      exact hK' _ _ (Fr.refl _ _) rfl
    · have e48 := hG.val (v := .bool true) 21 48 (hd _ rfl ⟨21, .data⟩ (by simp) rfl) rfl rfl
      refine op_do rfl (wanted_none rfl) hK (fun K' hK' => ?_)
      unfold Oper.wp
      go_simp
      exact hK' _ _ (Fr.refl _ _) rfl
  · intro vs W1 f1 hv
    have r0 : vs 0 = .pointer (some ⟨k, 0, none⟩) := hv 0 27 (by decide) rfl
    have r1 : vs 1 = .pointer (some ⟨b5, 1, none⟩) := hv 1 28 (by decide) rfl
    have r2 : vs 2 = .int .u32 ob := hv 2 29 (by decide) rfl
    have r3 : vs 3 = .pointer (some ⟨b5, 2, none⟩) := hv 3 30 (by decide) rfl
    have r4 : vs 4 = .int .u32 fe := hv 4 31 (by decide) rfl
    have r5 : vs 5 = .bool false := hv 5 32 (by decide) rfl
    have r6 : vs 6 = .int .i64 z := hv 6 33 (by decide) rfl
    have r7 : vs 7 = .bool false := hv 7 34 (by decide) rfl
    have r8 : vs 8 = .bool false := hv 8 35 (by decide) rfl
    have r9 : vs 9 = undef := hv 9 36 (by decide) rfl
    have r10 : vs 10 = undef := hv 10 37 (by decide) rfl
    have r11 : vs 11 = undef := hv 11 38 (by decide) rfl
    have r12 : vs 12 = undef := hv 12 39 (by decide) rfl
    have r13 : vs 13 = undef := hv 13 40 (by decide) rfl
    have r14 : vs 14 = undef := hv 14 41 (by decide) rfl
    have r15 : vs 15 = undef := hv 15 42 (by decide) rfl
    have r16 : vs 16 = undef := hv 16 43 (by decide) rfl
    have r17 : vs 17 = undef := hv 17 44 (by decide) rfl
    have r18 : vs 18 = undef := hv 18 45 (by decide) rfl
    have r19 : vs 19 = undef := hv 19 46 (by decide) rfl
    have r20 : vs 20 = .bool false := hv 20 47 (by decide) rfl
    have r21 : vs 21 = .bool true := hv 21 48 (by decide) rfl
    have r22 : vs 22 = .bool true := hv 22 6 (by decide) rfl
    simp only [lay, List.foldl_cons, List.foldl_nil, r0, r1, r2, r3, r4, r5, r6, r7, r8, r9, r10, r11, r12, r13, r14, r15, r16, r17, r18, r19, r20, r21, r22]
    simp only [List.setIfInBounds_toArray, List.set_cons_zero, List.set_cons_succ]
    clear hv r0 r1 r2 r3 r4 r5 r6 r7 r8 r9 r10 r11 r12 r13 r14 r15 r16 r17 r18 r19 r20 r21 r22
    go_wp2_with fail
    refine bodyPost_ret (v := .bool true) (by simp [results, Tryd.results53, go_sem]) rfl ⟨rfl, F1.trans f1 (by simp)⟩
set_option maxRecDepth 100000 in
set_option maxHeartbeats 2000000 in
theorem asks_in_yes (w : World) (M N : List Nat) (k kr rO rN : Nat) (F : List Int) (V : List VO) (ob fe nu ti px py a0 a1 a2 a3 a4 : Int) (sp : Nat) (up : Option Addr) (un uc : Nat) (h : St w M N k kr rO rN F V) (hob : U32 ob) (hfe : U32 fe) (r : Nat) (o : VO) (hz : posV V ob = r) (ho : V[r]? = some o) :
    Calls Tryd.prog 53 #[.pointer (some ⟨k, 0, none⟩), .pointer (some ⟨kr, 0, none⟩), .agg #[.int .i64 8, .int .u32 ob, .int .u32 fe, .int .u32 nu, .int .u32 ti, .int .i32 px, .int .i32 py, .int .u32 a0, .int .u32 a1, .int .u32 a2, .int .i32 a3, .int .i32 a4, .float .f64 sp, .slice up un uc]] w fun e w' => e = .returned (.bool true) ∧ Fr [] w w' := by
  obtain ⟨w1, hw1⟩ : ∃ w1, w.alloc (.cells #[.int .i64 8, .int .u32 ob, .int .u32 fe, .int .u32 nu, .int .u32 ti, .int .i32 px, .int .i32 py, .int .u32 a0, .int .u32 a1, .int .u32 a2, .int .i32 a3, .int .i32 a4, .float .f64 sp, .slice up un uc] 121) = w1 := ⟨_, rfl⟩
  have F1 : Fr [] w w1 := by rw [← hw1]; exact (Fr.refl _ _).alloc _
  have hb : Blk w1 w.heap.size #[.int .i64 8, .int .u32 ob, .int .u32 fe, .int .u32 nu, .int .u32 ti, .int .i32 px, .int .i32 py, .int .u32 a0, .int .u32 a1, .int .u32 a2, .int .i32 a3, .int .i32 a4, .float .f64 sp, .slice up un uc] 121 := by rw [← hw1]; exact Blk.new w _ _
  have d1 := hb.at 1 (v := .int .u32 ob) rfl
  have d0 := hb.at 0 (v := .int .i64 8) rfl
  rw [← hw1] at d0 d1
  have HR := Lib.hid (rfind w1 M kr rO rN F V ob (h.rb.grow F1))
  have HL := Lib.hid h.kb.lens
  have HZ := Lib.hid (And.intro hz ho)
  have HS := Lib.hid (And.intro (h.grow F1) (And.intro F1 (And.intro hb hw1)))
  clear h F1 hb hw1
  go_enter Tryd.func53, Tryd.ntmps53
  go_wp2_with fail
  obtain ⟨h, F1, hb, hw1⟩ := HS.out
  rw [hw1] at d0 d1 ⊢
  clear hw1 HS
  (with_reducible refine (HR.out).mono ?_)
  rintro e w2 ⟨rfl, rfl⟩
  obtain ⟨b5, hb5⟩ : ∃ b5, b5 = w.heap.size := ⟨_, rfl⟩
  have hwb : w.heap.size ≤ b5 := by omega
  have hbl : b5 < w1.heap.size := by have := hb.lt; omega
  rw [← hb5] at d0 d1 hb ⊢
  clear hb5 HR
  have d2 := hb.at 2 (v := .int .u32 fe) rfl
  rw [hz]
  clear hz
  obtain ⟨vL, vF, L, hrb⟩ := h.rb
  obtain ⟨x, hx⟩ : ∃ x, L[r]? = some x := ⟨_, List.getElem?_eq_getElem (by have := hrb.len; have := (List.getElem?_eq_some_iff.1 ho).1; omega)⟩
  obtain ⟨gL, oL, cL, rfl, hcx⟩ := ObS.at hrb.obs.out hx
  have hix := (hrb.is r x o hx ho).out
  obtain ⟨nL, hnL⟩ : ∃ nL, nL = L.length := ⟨_, rfl⟩
  have hrn : r < nL := by rw [hnL]; exact (List.getElem?_eq_some_iff.1 hx).1
  have hhd := hrb.hd
  unfold RfAt at hhd
  rw [← hnL] at hhd
  obtain ⟨xid, xnum, xt, xpx, xpy, xs, xp, xn, xc⟩ := x
  obtain ⟨i0, i1, i2, i3, i4, i5, i6⟩ := hix
  dsimp only at i0 i1 i2 i3 i4 i5
  subst i0 i1 i2 i3 i4 i5
  unfold RO.v at i6
  dsimp only at i6
  have hol : o.ids.length ≤ 64 := HL.out.2.2.2.2 o (List.mem_of_getElem? ho)
  clear hrb hx hnL
  go_wp2_with fail
  refine region_grow (by kernel_rfl) (by kernel_rfl) [.is (.pointer (some ⟨k, 0, none⟩)), .is (.pointer (some ⟨b5, 1, none⟩)), .is (.int .u32 ob), .is (.pointer (some ⟨b5, 2, none⟩)), .is (.int .u32 fe), .is (.bool (decide (fe ∈ o.ids))), .is (.int .i64 (r : Nat)), .is (.bool true), .is (.bool true), .is (.pointer (some ⟨kr, 0, none⟩)), .is (.pointer (some ⟨kr, 0, none⟩)), .is (.pointer (some ⟨kr, 2, none⟩)), .is (.slice (some ⟨gL, oL, none⟩) nL cL), .is (.int .i64 (r : Nat)), .is (.pointer (some ⟨gL, oL + r * 7, none⟩)), .is (.pointer (some ⟨gL, oL + r * 7 + 6, none⟩)), .is (.slice xp xn xc), .is (.pointer (some ⟨b5, 2, none⟩)), .is (.int .u32 fe), .is (.bool (decide (fe ∈ o.ids))), .is (.bool (decide (fe ∈ o.ids))), .is (.bool true), .is (.bool true)] 168 rfl (by kernel_rfl) [(0, 27), (1, 28), (2, 29), (3, 30), (4, 31), (5, 32), (6, 33), (7, 34), (8, 35), (9, 36), (10, 37), (11, 38), (12, 39), (13, 40), (14, 41), (15, 42), (16, 43), (17, 44), (18, 45), (19, 46), (20, 47), (21, 48), (22, 6)] (by kernel_rfl) ?_ ?_
  · intro q a1 W1 i hi hnq hd hG K hK
    have hlt : i < 23 := hi
    have hc : i = 0 ∨ i = 1 ∨ i = 2 ∨ i = 3 ∨ i = 4 ∨ i = 5 ∨ i = 6 ∨ i = 7 ∨ i = 8 ∨ i = 9 ∨ i = 10 ∨ i = 11 ∨ i = 12 ∨ i = 13 ∨ i = 14 ∨ i = 15 ∨ i = 16 ∨ i = 17 ∨ i = 18 ∨ i = 19 ∨ i = 20 ∨ i = 21 ∨ i = 22 := by omega
    rcases hc with rfl | rfl | rfl | rfl | rfl | rfl | rfl | rfl | rfl | rfl | rfl | rfl | rfl | rfl | rfl | rfl | rfl | rfl | rfl | rfl | rfl | rfl | rfl
    · have e0 := hG.old 0 (by kernel_rfl)
      refine op_do rfl (wanted_none rfl) hK (fun K' hK' => ?_)
      unfold Oper.wp
      go_simp
      exact hK' _ _ (Fr.refl _ _) rfl
    · have e5 := hG.old 5 (by kernel_rfl)
      refine op_do rfl (wanted_none rfl) hK (fun K' hK' => ?_)
      unfold Oper.wp
      go_simp
      exact hK' _ _ (Fr.refl _ _) rfl
    · have e28 := hG.val (v := .pointer (some ⟨b5, 1, none⟩)) 1 28 (hd _ rfl ⟨1, .data⟩ (by simp) rfl) rfl rfl
      have c1 := (hG.grown.blk hb (by simp)).at 1 (v := .int .u32 ob) rfl
      refine op_do rfl (wanted_none rfl) hK (fun K' hK' => ?_)
      unfold Oper.wp
      go_simp
      exact hK' _ _ (Fr.refl _ _) rfl
    · have e5 := hG.old 5 (by kernel_rfl)
      refine op_do rfl (wanted_none rfl) hK (fun K' hK' => ?_)
      unfold Oper.wp
      go_simp
      exact hK' _ _ (Fr.refl _ _) rfl
    · have e30 := hG.val (v := .pointer (some ⟨b5, 2, none⟩)) 3 30 (hd _ rfl ⟨3, .data⟩ (by simp) rfl) rfl rfl
      have c2 := (hG.grown.blk hb (by simp)).at 2 (v := .int .u32 fe) rfl
      refine op_do rfl (wanted_none rfl) hK (fun K' hK' => ?_)
      unfold Oper.wp
      go_simp
      exact hK' _ _ (Fr.refl _ _) rfl
    · have e27 := hG.val (v := .pointer (some ⟨k, 0, none⟩)) 0 27 (hd _ rfl ⟨0, .data⟩ (by simp) rfl) rfl rfl
      have e29 := hG.val (v := .int .u32 ob) 2 29 (hd _ rfl ⟨2, .data⟩ (by simp) rfl) rfl rfl
      have e31 := hG.val (v := .int .u32 fe) 4 31 (hd _ rfl ⟨4, .data⟩ (by simp) rfl) rfl rfl
      refine op_do rfl (wanted_none rfl) hK (fun K' hK' => ?_)
      unfold Oper.wp
      go_simp
      refine (kbin (w := W1) ob fe (h.kb.grow hG.grown) hob hfe (decide (fe ∈ o.ids)) (.inr ⟨r, o, HZ.out.1, HZ.out.2, rfl⟩)).mono ?_
      rintro e W2 ⟨rfl, f⟩
      exact hK' _ _ f rfl
    · have e7 := hG.old 7 (by kernel_rfl)
      refine op_do rfl (wanted_none rfl) hK (fun K' hK' => ?_)
      unfold Oper.wp
      go_simp
      exact hK' _ _ (Fr.refl _ _) rfl
    · have e33 := hG.val (v := .int .i64 (r : Nat)) 6 33 (hd _ rfl ⟨6, .data⟩ (by simp) rfl) rfl rfl
      have l0 : (0 : Int) ≤ (r : Int) := by omega
      refine op_do rfl (wanted_none rfl) hK (fun K' hK' => ?_)
      unfold Oper.wp
      go_simp
      exact hK' _ _ (Fr.refl _ _) rfl
    · have e34 := hG.val (v := .bool true) 7 34 (hd _ rfl ⟨7, .data⟩ (by simp) rfl) rfl rfl
      refine op_do rfl (wanted_none rfl) hK (fun K' hK' => ?_)
      unfold Oper.wp
      go_simp
      exact hK' _ _ (Fr.refl _ _) rfl
    · have e1 := hG.old 1 (by kernel_rfl)
      have eg := hG.val (v := .bool true) 8 35 (hd _ rfl ⟨8, .guard⟩ (by simp) rfl) rfl rfl
      refine op_do rfl (by simp [Region.wanted, yielded, eg]) hK (fun K' hK' => ?_)
      unfold Oper.wp
      go_simp
      exact hK' _ _ (Fr.refl _ _) rfl
    · have e36 := hG.val (v := .pointer (some ⟨kr, 0, none⟩)) 9 36 (hd _ rfl ⟨9, .data⟩ (by simp) rfl) rfl rfl
      have eg := hG.val (v := .bool true) 8 35 (hd _ rfl ⟨8, .guard⟩ (by simp) rfl) rfl rfl
      refine op_do rfl (by simp [Region.wanted, yielded, eg]) hK (fun K' hK' => ?_)
      unfold Oper.wp
      go_simp
      exact hK' _ _ (Fr.refl _ _) rfl
    · have e37 := hG.val (v := .pointer (some ⟨kr, 0, none⟩)) 10 37 (hd _ rfl ⟨10, .data⟩ (by simp) rfl) rfl rfl
      have eg := hG.val (v := .bool true) 8 35 (hd _ rfl ⟨8, .guard⟩ (by simp) rfl) rfl rfl
      refine op_do rfl (by simp [Region.wanted, yielded, eg]) hK (fun K' hK' => ?_)
      unfold Oper.wp
      go_simp
      exact hK' _ _ (Fr.refl _ _) rfl
    · have e38 := hG.val (v := .pointer (some ⟨kr, 2, none⟩)) 11 38 (hd _ rfl ⟨11, .data⟩ (by simp) rfl) rfl rfl
      have eg := hG.val (v := .bool true) 8 35 (hd _ rfl ⟨8, .guard⟩ (by simp) rfl) rfl rfl
      have c3 := (hG.grown.blk hhd (by simp)).at 2 (v := .slice (some ⟨gL, oL, none⟩) nL cL) rfl
      refine op_do rfl (by simp [Region.wanted, yielded, eg]) hK (fun K' hK' => ?_)
      unfold Oper.wp
      go_simp
      exact hK' _ _ (Fr.refl _ _) rfl
    · have e7 := hG.old 7 (by kernel_rfl)
      have eg := hG.val (v := .bool true) 8 35 (hd _ rfl ⟨8, .guard⟩ (by simp) rfl) rfl rfl
      refine op_do rfl (by simp [Region.wanted, yielded, eg]) hK (fun K' hK' => ?_)
      unfold Oper.wp
      go_simp
      exact hK' _ _ (Fr.refl _ _) rfl
    · have e39 := hG.val (v := .slice (some ⟨gL, oL, none⟩) nL cL) 12 39 (hd _ rfl ⟨12, .data⟩ (by simp) rfl) rfl rfl
      have e40 := hG.val (v := .int .i64 (r : Nat)) 13 40 (hd _ rfl ⟨13, .data⟩ (by simp) rfl) rfl rfl
      have eg := hG.val (v := .bool true) 8 35 (hd _ rfl ⟨8, .guard⟩ (by simp) rfl) rfl rfl
      have l0 : (0 : Int) ≤ (r : Int) := by omega
      have l1 : (r : Int) < (nL : Int) := by omega
      refine op_do rfl (by simp [Region.wanted, yielded, eg]) hK (fun K' hK' => ?_)
      unfold Oper.wp
      go_simp
      exact hK' _ _ (Fr.refl _ _) rfl
    · have e41 := hG.val (v := .pointer (some ⟨gL, oL + r * 7, none⟩)) 14 41 (hd _ rfl ⟨14, .data⟩ (by simp) rfl) rfl rfl
      have eg := hG.val (v := .bool true) 8 35 (hd _ rfl ⟨8, .guard⟩ (by simp) rfl) rfl rfl
      refine op_do rfl (by simp [Region.wanted, yielded, eg]) hK (fun K' hK' => ?_)
      unfold Oper.wp
      go_simp
      exact hK' _ _ (Fr.refl _ _) rfl
    · have e42 := hG.val (v := .pointer (some ⟨gL, oL + r * 7 + 6, none⟩)) 15 42 (hd _ rfl ⟨15, .data⟩ (by simp) rfl) rfl rfl
      have eg := hG.val (v := .bool true) 8 35 (hd _ rfl ⟨8, .guard⟩ (by simp) rfl) rfl rfl
      have c6 := (hcx.fr hG.grown (by simp)).c6
      refine op_do rfl (by simp [Region.wanted, yielded, eg]) hK (fun K' hK' => ?_)
      unfold Oper.wp
      go_simp
      exact hK' _ _ (Fr.refl _ _) rfl
    · have e5 := hG.old 5 (by kernel_rfl)
      have eg := hG.val (v := .bool true) 8 35 (hd _ rfl ⟨8, .guard⟩ (by simp) rfl) rfl rfl
      refine op_do rfl (by simp [Region.wanted, yielded, eg]) hK (fun K' hK' => ?_)
      unfold Oper.wp
      go_simp
      exact hK' _ _ (Fr.refl _ _) rfl
    · have e44 := hG.val (v := .pointer (some ⟨b5, 2, none⟩)) 17 44 (hd _ rfl ⟨17, .data⟩ (by simp) rfl) rfl rfl
      have eg := hG.val (v := .bool true) 8 35 (hd _ rfl ⟨8, .guard⟩ (by simp) rfl) rfl rfl
      have c2 := (hG.grown.blk hb (by simp)).at 2 (v := .int .u32 fe) rfl
      refine op_do rfl (by simp [Region.wanted, yielded, eg]) hK (fun K' hK' => ?_)
      unfold Oper.wp
      go_simp
      exact hK' _ _ (Fr.refl _ _) rfl
    · have e43 := hG.val (v := .slice xp xn xc) 16 43 (hd _ rfl ⟨16, .data⟩ (by simp) rfl) rfl rfl
      have e45 := hG.val (v := .int .u32 fe) 18 45 (hd _ rfl ⟨18, .data⟩ (by simp) rfl) rfl rfl
      have eg := hG.val (v := .bool true) 8 35 (hd _ rfl ⟨8, .guard⟩ (by simp) rfl) rfl rfl
      refine op_do rfl (by simp [Region.wanted, yielded, eg]) hK (fun K' hK' => ?_)
      unfold Oper.wp
      go_simp
      refine (has_ids W1 (.slice xp xn xc) o.ids fe (i6.grow hG.grown) (by omega)).mono ?_
      rintro e W2 ⟨rfl, rfl⟩
      exact hK' _ _ (Fr.refl _ _) rfl
    · have e35 := hG.val (v := .bool true) 8 35 (hd _ rfl ⟨8, .data⟩ (by simp) rfl) rfl rfl
      have e46 := hG.val (v := .bool (decide (fe ∈ o.ids))) 19 46 (hd _ rfl ⟨19, .data⟩ (by simp) rfl) rfl rfl
      refine op_do rfl (wanted_none rfl) hK (fun K' hK' => ?_)
      unfold Oper.wp
      go_simp
      exact hK' _ _ (Fr.refl _ _) rfl
    · have e32 := hG.val (v := .bool (decide (fe ∈ o.ids))) 5 32 (hd _ rfl ⟨5, .data⟩ (by simp) rfl) rfl rfl
      have e47 := hG.val (v := .bool (decide (fe ∈ o.ids))) 20 47 (hd _ rfl ⟨20, .data⟩ (by simp) rfl) rfl rfl
      refine op_do rfl (wanted_none rfl) hK (fun K' hK' => ?_)
      unfold Oper.wp
      go_simp
      exact hK' _ _ (Fr.refl _ _) rfl
    · have e48 := hG.val (v := .bool true) 21 48 (hd _ rfl ⟨21, .data⟩ (by simp) rfl) rfl rfl
      refine op_do rfl (wanted_none rfl) hK (fun K' hK' => ?_)
      unfold Oper.wp
      go_simp
      exact hK' _ _ (Fr.refl _ _) rfl
  · intro vs W1 f1 hv
    have r0 : vs 0 = .pointer (some ⟨k, 0, none⟩) := hv 0 27 (by decide) rfl
    have r1 : vs 1 = .pointer (some ⟨b5, 1, none⟩) := hv 1 28 (by decide) rfl
    have r2 : vs 2 = .int .u32 ob := hv 2 29 (by decide) rfl
    have r3 : vs 3 = .pointer (some ⟨b5, 2, none⟩) := hv 3 30 (by decide) rfl
    have r4 : vs 4 = .int .u32 fe := hv 4 31 (by decide) rfl
    have r5 : vs 5 = .bool (decide (fe ∈ o.ids)) := hv 5 32 (by decide) rfl
    have r6 : vs 6 = .int .i64 (r : Nat) := hv 6 33 (by decide) rfl
    have r7 : vs 7 = .bool true := hv 7 34 (by decide) rfl
    have r8 : vs 8 = .bool true := hv 8 35 (by decide) rfl
    have r9 : vs 9 = .pointer (some ⟨kr, 0, none⟩) := hv 9 36 (by decide) rfl
    have r10 : vs 10 = .pointer (some ⟨kr, 0, none⟩) := hv 10 37 (by decide) rfl
    have r11 : vs 11 = .pointer (some ⟨kr, 2, none⟩) := hv 11 38 (by decide) rfl
    have r12 : vs 12 = .slice (some ⟨gL, oL, none⟩) nL cL := hv 12 39 (by decide) rfl
    have r13 : vs 13 = .int .i64 (r : Nat) := hv 13 40 (by decide) rfl
    have r14 : vs 14 = .pointer (some ⟨gL, oL + r * 7, none⟩) := hv 14 41 (by decide) rfl
    have r15 : vs 15 = .pointer (some ⟨gL, oL + r * 7 + 6, none⟩) := hv 15 42 (by decide) rfl
    have r16 : vs 16 = .slice xp xn xc := hv 16 43 (by decide) rfl
    have r17 : vs 17 = .pointer (some ⟨b5, 2, none⟩) := hv 17 44 (by decide) rfl
    have r18 : vs 18 = .int .u32 fe := hv 18 45 (by decide) rfl
    have r19 : vs 19 = .bool (decide (fe ∈ o.ids)) := hv 19 46 (by decide) rfl
    have r20 : vs 20 = .bool (decide (fe ∈ o.ids)) := hv 20 47 (by decide) rfl
    have r21 : vs 21 = .bool true := hv 21 48 (by decide) rfl
    have r22 : vs 22 = .bool true := hv 22 6 (by decide) rfl
    simp only [lay, List.foldl_cons, List.foldl_nil, r0, r1, r2, r3, r4, r5, r6, r7, r8, r9, r10, r11, r12, r13, r14, r15, r16, r17, r18, r19, r20, r21, r22]
    simp only [List.setIfInBounds_toArray, List.set_cons_zero, List.set_cons_succ]
    clear hv r0 r1 r2 r3 r4 r5 r6 r7 r8 r9 r10 r11 r12 r13 r14 r15 r16 r17 r18 r19 r20 r21 r22
    go_wp2_with fail
    refine bodyPost_ret (v := .bool true) (by simp [results, Tryd.results53, go_sem]) rfl ⟨rfl, F1.trans f1 (by simp)⟩
set_option maxRecDepth 100000 in
set_option maxHeartbeats 2000000 in
theorem asks_inside (w : World) (M N : List Nat) (k kr rO rN : Nat) (F : List Int) (V : List VO) (ob fe nu ti px py a0 a1 a2 a3 a4 : Int) (sp : Nat) (up : Option Addr) (un uc : Nat) (h : St w M N k kr rO rN F V) (hob : U32 ob) (hfe : U32 fe) :
    Calls Tryd.prog 53 #[.pointer (some ⟨k, 0, none⟩), .pointer (some ⟨kr, 0, none⟩), .agg #[.int .i64 9, .int .u32 ob, .int .u32 fe, .int .u32 nu, .int .u32 ti, .int .i32 px, .int .i32 py, .int .u32 a0, .int .u32 a1, .int .u32 a2, .int .i32 a3, .int .i32 a4, .float .f64 sp, .slice up un uc]] w fun e w' => e = .returned (.bool true) ∧ Fr [] w w' := by
  obtain ⟨w1, hw1⟩ : ∃ w1, w.alloc (.cells #[.int .i64 9, .int .u32 ob, .int .u32 fe, .int .u32 nu, .int .u32 ti, .int .i32 px, .int .i32 py, .int .u32 a0, .int .u32 a1, .int .u32 a2, .int .i32 a3, .int .i32 a4, .float .f64 sp, .slice up un uc] 121) = w1 := ⟨_, rfl⟩
  have F1 : Fr [] w w1 := by rw [← hw1]; exact (Fr.refl _ _).alloc _
  have hb : Blk w1 w.heap.size #[.int .i64 9, .int .u32 ob, .int .u32 fe, .int .u32 nu, .int .u32 ti, .int .i32 px, .int .i32 py, .int .u32 a0, .int .u32 a1, .int .u32 a2, .int .i32 a3, .int .i32 a4, .float .f64 sp, .slice up un uc] 121 := by rw [← hw1]; exact Blk.new w _ _
  have d1 := hb.at 1 (v := .int .u32 ob) rfl
  have d0 := hb.at 0 (v := .int .i64 9) rfl
  rw [← hw1] at d0 d1
  have HR := Lib.hid (rfind w1 M kr rO rN F V ob (h.rb.grow F1))
  have HL := Lib.hid h.kb.lens
  have HS := Lib.hid (And.intro (h.grow F1) (And.intro F1 (And.intro hb hw1)))
  clear h F1 hb hw1
  go_enter Tryd.func53, Tryd.ntmps53
  go_wp2_with fail
  obtain ⟨h, F1, hb, hw1⟩ := HS.out
  rw [hw1] at d0 d1 ⊢
  clear hw1 HS
  (with_reducible refine (HR.out).mono ?_)
  rintro e w2 ⟨rfl, rfl⟩
  obtain ⟨b5, hb5⟩ : ∃ b5, b5 = w.heap.size := ⟨_, rfl⟩
  have hwb : w.heap.size ≤ b5 := by omega
  have hbl : b5 < w1.heap.size := by have := hb.lt; omega
  rw [← hb5] at d0 d1 hb ⊢
  clear hb5 HR
  have d2 := hb.at 2 (v := .int .u32 fe) rfl
  have HQ := Lib.hid (And.intro h (And.intro F1 (And.intro hb (And.intro hob hfe))))
  clear h F1 hb
  go_wp2_with fail
  (with_reducible refine (kbinside fe HQ.out.1.kb hfe).mono ?_)
  rintro e w2 ⟨l, rfl, h1⟩
  have hb2 := h1.fr.blk HQ.out.2.2.1 (by simp)
  have e2 := hb2.at 2 (v := .int .u32 fe) rfl
  obtain ⟨p1, c1, rfl⟩ := h1.form
  obtain ⟨n1, hn1⟩ : ∃ n1, n1 = (insV V fe).length := ⟨_, rfl⟩
  rw [← hn1] at h1 ⊢
  have H1 := Lib.hid (And.intro h1 (And.intro hb2 hn1))
  clear h1 hb2 d0 d1 d2 hn1
  go_wp2_with fail
  (with_reducible refine (kbinside fe (HQ.out.1.grow H1.out.1.fr).kb hfe).mono ?_)
  rintro e w3 ⟨m, rfl, h2⟩
  obtain ⟨p2, c2, rfl⟩ := h2.form
  have hb3 := h2.fr.blk H1.out.2.1 (by simp)
  have e3 := hb3.at 2 (v := .int .u32 fe) rfl
  rw [← H1.out.2.2] at h2 ⊢
  have H2 := Lib.hid (And.intro h2 hb3)
  clear h2 hb3 e2
  go_wp2_with fail
  (with_reducible refine (rinside w3 M kr rO rN F V fe ((HQ.out.1.grow H1.out.1.fr).grow H2.out.1.fr).rb).mono ?_)
  rintro e w4 ⟨q, rfl, h3⟩
  obtain ⟨p3, c3, rfl⟩ := h3.form
  rw [← H1.out.2.2] at h3 ⊢
  have H3 := Lib.hid h3
  have hlen : n1 ≤ 64 := by have := insV_len V fe; have := H1.out.2.2; have := HL.out; omega
  have HI1 := Lib.hid (show IdS w4 (.slice p1 n1 c1) (insV V fe) from by
    have := own_fr (own_fr H1.out.1.own H2.out.1.fr (by simp)) h3.fr (by simp)
    rw [H1.out.2.2] at this ⊢
    exact own_rdf this (by have := H1.out.2.2; omega))
  have HI3 := Lib.hid (show IdS w4 (.slice p3 n1 c3) (insV V fe) from by
    have := h3.own
    rw [H1.out.2.2] at this ⊢
    exact own_rdf this (by have := H1.out.2.2; omega))
  clear h3 e3
  go_wp2_with fail
  (with_reducible refine (sameIds_any w4 p1 p3 n1 c1 c3 (insV V fe) H1.out.2.2 HI1.out HI3.out (by omega)).mono ?_)
  rintro e w5 ⟨rfl, f5⟩
  have HO := Lib.hid (show w5.ownsRow 0 33 1 (.slice p1 n1 c1) n1 (u32v (insV V fe)) from by
    exact own_fr (own_fr (own_fr H1.out.1.own H2.out.1.fr (by simp)) H3.out.fr (by simp)) f5 (by simp))
  have HF5 := Lib.hid f5
  clear f5
  go_wp2_with fail
  go_loopw [12] (fun i wr => ∃ jj : Nat, i = .int .i64 jj ∧ jj ≤ n1 ∧ Spoil w5 wr (.slice p1 n1 c1)) (fun i _ => n1 - (intOf i).toNat)
  case atStart => exact ⟨0, rfl, Nat.zero_le _, Spoil.start HO.out⟩
  case round =>
    obtain ⟨jj, rfl, hjj, hsp⟩ := hrel
    obtain ⟨wi, hwi⟩ : ∃ wi : World, wi = wr := ⟨_, rfl⟩
    rw [← hwi] at hsp ⊢
    clear hwi
    by_cases hlt : jj < n1
    · obtain ⟨gx, hpx, ⟨u0, z0⟩, z1, hnext⟩ := Spoil.at HO.out hsp hlt
      have HW := Lib.hid (hnext (.int .u32 777))
      have l0 : (0 : Int) ≤ (jj : Int) := by omega
      have l1 : (jj : Int) < (n1 : Int) := by omega
      rw [hpx]
      clear hsp hnext
      go_wp2_with fail
      refine ⟨⟨jj + 1, by go_num, by omega, ?_⟩, by simp [intOf]; omega⟩
      rw [← hpx]
      exact HW.out
    · obtain rfl : n1 = jj := by omega
      have hdis : ∀ g, (Value.slice p2 n1 c2).ownBlock = some g → g ∉ (Value.slice p1 n1 c1).ownBlock.toList := fun g hg hm => by
        have h8 := H2.out.1.low g hg
        have h9 := own_lt H1.out.1.own (g := g) (by simpa using hm)
        omega
      have hdis3 : ∀ g, (Value.slice p3 n1 c3).ownBlock = some g → g ∉ (Value.slice p1 n1 c1).ownBlock.toList := fun g hg hm => by
        have h8 := H3.out.low g hg
        have h9 := own_lt H1.out.1.own (g := g) (by simpa using hm)
        have := H2.out.1.fr.size
        omega
      have hm2 : wi.ownsRow 0 33 1 (.slice p2 n1 c2) n1 (u32v (insV V fe)) := own_fr (own_fr (own_fr H2.out.1.own H3.out.fr (by simp)) HF5.out (by simp)) hsp.fr hdis
      have hm3 : wi.ownsRow 0 33 1 (.slice p3 n1 c3) n1 (u32v (insV V fe)) := own_fr (own_fr H3.out.own HF5.out (by simp)) hsp.fr hdis3
      have HI2 := Lib.hid (show IdS wi (.slice p2 n1 c2) (insV V fe) ∧ IdS wi (.slice p3 n1 c3) (insV V fe) from by
        rw [H1.out.2.2] at hm2 hm3 ⊢
        exact ⟨own_rdf hm2 (by have := H1.out.2.2; omega), own_rdf hm3 (by have := H1.out.2.2; omega)⟩)
      have HW := Lib.hid hsp
      clear hsp hdis hdis3 hm2 hm3
      go_wp2_with fail
      (with_reducible refine (sameIds_any wi p2 p3 n1 c2 c3 (insV V fe) H1.out.2.2 HI2.out.1 HI2.out.2 (by omega)).mono ?_)
      rintro e w6 ⟨rfl, f6⟩
      have HF6 := Lib.hid f6
      clear f6
      go_wp2_with fail
      refine bodyPost_ret (v := .bool true) (by simp [results, Tryd.results53, go_sem]) rfl ⟨rfl, ((((HQ.out.2.1.trans H1.out.1.fr (by simp)).trans H2.out.1.fr (by simp)).trans H3.out.fr (by simp)).trans HF5.out (by simp)).trans (HW.out.fr.trans HF6.out (by simp)) (fun s hs => .inr ?_)⟩
      have := H1.out.1.low s (by simpa using hs)
      have := HQ.out.2.1.size
      omega
end Go.Proofs.YtgoolkgjcmdilaaDoor
end
