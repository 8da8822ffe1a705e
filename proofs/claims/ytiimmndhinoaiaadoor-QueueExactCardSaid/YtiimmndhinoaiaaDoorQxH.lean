/-
  QueueExact: the walk. Printed by genQy.py.
-/
import Derived.Test.YtiimmndhinoaiaaDoorQxG
namespace Go.Proofs.YtiimmndhinoaiaaDoor
open Go.RowKit Go.Shelf ring
set_option linter.unusedVariables false
set_option linter.unusedSimpArgs false
attribute [local go_sem] Oper.semAt_some
namespace Qu

/-- How a step lies. -/
structure Stq where
  kd : Int
  on : Int
  sv : Int
  si : Int
def QStq (cs : List Value) (s : Stq) : Prop := cs = [.int .i64 s.kd, .int .i64 s.on, .int .i64 s.sv, .int .i64 s.si] ∧ I64 s.sv
theorem and1 (x : Int) : bits .and .i64 x 1 = 0 ∨ bits .and .i64 x 1 = 1 := by
  have h : (BitVec.ofInt 64 x &&& BitVec.ofInt 64 1).toNat = (BitVec.ofInt 64 x).toNat % 2 := by
    rw [BitVec.toNat_and, show (BitVec.ofInt 64 1).toNat = 1 from rfl, Nat.and_one_is_mod]
  have h2 : bits .and .i64 x 1 = IntKind.i64.wrap (((BitVec.ofInt 64 x).toNat % 2 : Nat) : Int) := by rw [← h]; rfl
  rw [h2]
  rcases Nat.mod_two_eq_zero_or_one (BitVec.ofInt 64 x).toNat with h | h <;> rw [h]
  · exact .inl rfl
  · exact .inr rfl
/-- What a drawn region with one change and one look keeps. -/
structure Once (t : Tr) (k : Nat) (w0 : World) (a : Nat) (p : Nat → Prop) (f : Nat → Option Value) (W : World) : Prop where
  fr : Fr (blks t) w0 W
  s0 : ¬ p a → Fr [] w0 W
  s1 : p a → ∃ V' M', QLeft w0 t.b t.g t.c t.d t.r t.vr V' M' W ∧ FineQ (k + 1) V' M'
section
variable {t : Tr} {k a i : Nat} {w0 W W' : World} {p : Nat → Prop} {f g : Nat → Option Value}
theorem Once.start : Once t k w0 a (fun _ => False) f w0.drew := ⟨(Fr.refl _ _).drew, fun _ => (Fr.refl _ _).drew, fun h => h.elim⟩
theorem Once.keep (h : Once t k w0 a p f W) (ha : a ≠ i) : Once t k w0 a (fun k => p k ∨ k = i) g W := ⟨h.fr, fun q => h.s0 (fun z => q (.inl z)), fun q => h.s1 (q.resolve_right ha)⟩
theorem Once.grow (h : Once t k w0 a p f W) (ha : a ≠ i) (hf : Fr [] W W') : Once t k w0 a (fun k => p k ∨ k = i) g W' := ⟨h.fr.trans hf (by simp), fun q => (h.s0 (fun z => q (.inl z))).trans hf (by simp), fun q => by
  obtain ⟨V', M', h1, h2⟩ := h.s1 (q.resolve_right ha)
  exact ⟨V', M', h1.grow hf, h2⟩⟩
theorem Once.one (h : Once t k w0 a p f W) (hn : ¬ p a) {V' : List Int} {M' : RM} (hq : QLeft W t.b t.g t.c t.d t.r t.vr V' M' W') (hf : FineQ (k + 1) V' M') : Once t k w0 a (fun k => p k ∨ k = a) g W' := by
  have h1 := QLeft.back (h.s0 hn) hq
  refine ⟨?_, fun q => absurd (.inr rfl) q, fun _ => ⟨V', M', h1, hf⟩⟩
  obtain ⟨_, _, _, _, _, _, _, h5⟩ := h1
  exact h5
end
section
variable {w0 W W' : World} {pa k : Nat} {l : List Tr}
/-- One more is made. -/
theorem SQ.push2 (h : SQ w0 pa k l W) (hl : l.length < 2) {t : Tr} {W7 : World} (f : Fr [] W W') (ht : TQ W' t.b t.g t.c t.d t.r t.vr t.V t.M) (hf : FineQ k t.V t.M) (hn : ∀ x ∈ blks t, W.heap.size ≤ x) (f7 : Fr [] (W'.setCell ⟨pa + 2, l.length, none⟩ (.pointer (some ⟨t.r, 0, none⟩))) W7) :
    SQ w0 pa k (l ++ [t]) ((W7.setCell ⟨pa, l.length, none⟩ (.pointer (some ⟨t.b, 0, none⟩))).setCell ⟨pa + 1, l.length, none⟩ (.pointer (some ⟨t.c, 0, none⟩))) := by
  have h1 := h.fr0 f
  have hp := h.pA.lt
  have hq := h.qA.lt
  have hr := h.rA.lt
  have ep : (arr (l.map Tr.b)).setIfInBounds l.length (.pointer (some ⟨t.b, 0, none⟩)) = arr ((l ++ [t]).map Tr.b) := by
    have := arr_push (l := l.map Tr.b) (by simpa using hl) t.b
    rw [List.length_map] at this
    rw [this, List.map_append]; rfl
  have eq : (arr (l.map Tr.c)).setIfInBounds l.length (.pointer (some ⟨t.c, 0, none⟩)) = arr ((l ++ [t]).map Tr.c) := by
    have := arr_push (l := l.map Tr.c) (by simpa using hl) t.c
    rw [List.length_map] at this
    rw [this, List.map_append]; rfl
  have er : (arr (l.map Tr.r)).setIfInBounds l.length (.pointer (some ⟨t.r, 0, none⟩)) = arr ((l ++ [t]).map Tr.r) := by
    have := arr_push (l := l.map Tr.r) (by simpa using hl) t.r
    rw [List.length_map] at this
    rw [this, List.map_append]; rfl
  have FF : Fr [pa, pa + 1, pa + 2] W' ((W7.setCell ⟨pa, l.length, none⟩ (.pointer (some ⟨t.b, 0, none⟩))).setCell ⟨pa + 1, l.length, none⟩ (.pointer (some ⟨t.c, 0, none⟩))) :=
    ((((Fr.refl _ _).setCell _ _ (.inl (by simp))).trans f7 (by simp)).setCell _ _ (.inl (by simp))).setCell _ _ (.inl (by simp))
  have hold : ∀ u ∈ l, ∀ x ∈ blks u, x < W.heap.size := fun u hu x hx => (h.tq u hu).1.lts x hx
  have htq : ∀ u : Tr, TQ W' u.b u.g u.c u.d u.r u.vr u.V u.M → (∀ x ∈ blks u, pa + 2 < x) → TQ ((W7.setCell ⟨pa, l.length, none⟩ (.pointer (some ⟨t.b, 0, none⟩))).setCell ⟨pa + 1, l.length, none⟩ (.pointer (some ⟨t.c, 0, none⟩))) u.b u.g u.c u.d u.r u.vr u.V u.M := fun u hu hx => by
    refine hu.fr FF (fun x hm hz => ?_) (fun j hj hz => ?_)
    · have := hx x hm
      simp at hz
      omega
    · obtain ⟨x, hb⟩ := own_blk hu.r.own j (by simp [hj])
      simp at hz
      rcases hz with rfl | rfl | rfl
      · exact hb.ne h1.pA (by decide) rfl
      · exact hb.ne h1.qA (by decide) rfl
      · exact hb.ne h1.rA (by decide) rfl
  refine ⟨?_, ?_, ?_, fun u hu => ?_, ?_, h1.fr.trans FF (fun x hx => .inr (by have := h.low; simp at hx; omega)), h.low⟩
  · rw [← ep]
    exact Blk.other (Blk.set (f7.blk (Blk.other h1.pA _ _ (show pa ≠ pa + 2 by omega)) (by simp)) _ _) _ _ (show pa ≠ pa + 1 by omega)
  · rw [← eq]
    exact Blk.set (Blk.other (f7.blk (Blk.other h1.qA _ _ (show pa + 1 ≠ pa + 2 by omega)) (by simp)) _ _ (show pa + 1 ≠ pa by omega)) _ _
  · rw [← er]
    exact Blk.other (Blk.other (f7.blk (Blk.set h1.rA _ _) (by simp)) _ _ (show pa + 2 ≠ pa by omega)) _ _ (show pa + 2 ≠ pa + 1 by omega)
  · rcases List.mem_append.1 hu with hu | hu
    · exact ⟨htq u (h1.tq u hu).1 (h.tq u hu).2.2, (h.tq u hu).2⟩
    · simp at hu
      subst hu
      have hx : ∀ x ∈ blks u, pa + 2 < x := fun x hx => by have := hn x hx; omega
      exact ⟨htq u ht hx, hf, hx⟩
  · refine List.pairwise_append.2 ⟨h.dj, List.pairwise_singleton _ _, fun u hu v hv x hx hm => ?_⟩
    simp at hv
    subst hv
    have := hold u hu x hx
    have := hn x hm
    omega
end
theorem SQ.cells {w0 W W' : World} {pa k j : Nat} {l : List Tr} {t : Tr} (h : SQ w0 pa k l W) (hj : l[j]? = some t) (f : Fr (blks t) W W') :
    W'.cell? ⟨pa, j, none⟩ = some (.pointer (some ⟨t.b, 0, none⟩)) ∧ W'.cell? ⟨pa + 1, j, none⟩ = some (.pointer (some ⟨t.c, 0, none⟩)) ∧ W'.cell? ⟨pa + 2, j, none⟩ = some (.pointer (some ⟨t.r, 0, none⟩)) := by
  have hlo := (h.tq t (List.mem_of_getElem? hj)).2.2
  exact ⟨(f.blk h.pA (fun hm => by have := hlo _ hm; omega)).at j (arr_at (by simp [hj])), (f.blk h.qA (fun hm => by have := hlo _ hm; omega)).at j (arr_at (by simp [hj])), (f.blk h.rA (fun hm => by have := hlo _ hm; omega)).at j (arr_at (by simp [hj]))⟩
/-- A list of one. -/
def Stab.oneQ (n0 : Nat) (L : List ByteArray) (x : Value) : Stab := ⟨fun u W => ∃ kb vx g, u = .slice (some ⟨g, 0, none⟩) 1 1 ∧ (∀ j y, ([.func (.func 50) #[] #[.pointer (some ⟨kb, 0, none⟩)], x] : List Value)[j]? = some y → W.cell? ((⟨g, 0, none⟩ : Addr).add j) = some y) ∧ g < W.heap.size ∧ RgS.AllHeld kb vx L W ∧ n0 ≤ kb ∧ ∀ g, vx.ownBlock = some g → n0 ≤ g, fun u W W' f h => by
  obtain ⟨kb, vx, g, h1, h2, h3, h4, h5⟩ := h
  refine ⟨kb, vx, g, h1, fun j y hj => (f.cell (a := (⟨g, 0, none⟩ : Addr).add j) ?_ (by simp)).trans (h2 j y hj), Nat.lt_of_lt_of_le h3 f.size, held_fr0 h4 f, h5⟩
  rw [Addr.add_lit]
  exact h3⟩
/-- How many places. -/
def plc (p0 p1 : Int) (i : Nat) : Int := if i = 0 then p0 else p1
theorem plc_at {W : World} {zb : Nat} {p0 p1 : Int} (h : Blk W zb #[.int .i64 p0, .int .i64 p1] 51) {i : Nat} (hi : i < 2) : W.cell? ⟨zb, i, none⟩ = some (.int .i64 (plc p0 p1 i)) := by
  obtain rfl | rfl : i = 0 ∨ i = 1 := by omega
  · exact h.at 0 rfl
  · exact h.at 1 rfl
set_option maxRecDepth 100000 in
set_option maxHeartbeats 4000000 in
theorem queue_any (w : World) (p0 p1 : Int) (sp : Value) (C : List Stq) (hC : RdS w sp 4 QStq C) (hCl : C.length ≤ 4398046511104) (hT : TB w) :
    Calls Tryd.prog 4 #[.agg #[.int .i64 p0, .int .i64 p1], sp] w fun e w' => e = .returned (.bool true) ∧ Fr [] w w' := by
  obtain ⟨qs, cs, rfl, hcs, -⟩ := RdS.form hC
  obtain ⟨N, hN⟩ : ∃ N, N = C.length := ⟨_, rfl⟩
  rw [← hN] at hCl ⊢
  have HC := Lib.hid (And.intro hC (And.intro hN hT))
  have H17 := Lib.hid (works_any (w.alloc (.cells #[.int .i64 p0, .int .i64 p1] 51)))
  obtain ⟨zb, hzb⟩ : ∃ zb, zb = w.heap.size := ⟨_, rfl⟩
  have HZB := Lib.hid hzb
  clear hN hcs hC hT hzb
  go_enter Tryd.func4, Tryd.ntmps4
  go_wp2_with fail
  (with_reducible refine H17.out.mono ?_)
  rintro e w1 ⟨rfl, f1⟩
  have hF1 : Fr [] w w1 := ((Fr.refl _ _).alloc _).trans f1 (by simp)
  have hB0 : Blk w1 zb #[.int .i64 p0, .int .i64 p1] 51 := f1.blk (Blk.new_at HZB.out _ _) (by simp)
  obtain ⟨pa, hpa⟩ : ∃ pa, pa = w1.heap.size := ⟨_, rfl⟩
  obtain ⟨w2, hw2⟩ : ∃ w2, ((w1.alloc (.cells #[.pointer none, .pointer none] 54)).alloc (.cells #[.pointer none, .pointer none] 56)).alloc (.cells #[.pointer none, .pointer none] 58) = w2 := ⟨_, rfl⟩
  have hF2 : Fr [] w1 w2 := by rw [← hw2]; exact (((Fr.refl _ _).alloc _).alloc _).alloc _
  have HSQ := Lib.hid (show SQ w pa 0 [] w2 from ⟨by rw [← hw2]; exact ((Blk.new_at hpa _ _).alloc _).alloc _, by rw [← hw2]; exact (Blk.new_at (by simp [hpa]) _ _).alloc _, by rw [← hw2]; exact Blk.new_at (by simp [hpa]) _ _, by simp, List.Pairwise.nil, hF1.trans hF2 (by simp), by rw [hpa]; exact hF1.size⟩)
  have HB2 := Lib.hid (hF2.blk hB0 (by simp))
  have hzp : zb < pa := by rw [hpa]; exact hB0.lt
  have HW2 := Lib.hid hw2
  have HPA := Lib.hid hpa
  have HZ := Lib.hid (show zb = w.heap.size ∧ zb < pa from ⟨HZB.out, hzp⟩)
  clear H17 f1 hF1 hF2 hB0 hpa hw2 hzp
  go_upto_region 6 with fail
  rw [HW2.out]
  simp only [← HPA.out, ← HZB.out]
  clear HW2 HPA HZB
  go_wp2_with fail
  go_loopw [8] (fun i wr => ∃ (l : List Tr), i = .int .i64 (l.length : Nat) ∧ l.length ≤ 2 ∧ SQ w pa 0 l wr ∧ Blk wr zb #[.int .i64 p0, .int .i64 p1] 51) (fun i _ => 2 - (intOf i).toNat)
  case atStart => exact ⟨[], rfl, by simp, HSQ.out, HB2.out⟩
  case round =>
    obtain ⟨l, rfl, hl2, hS, hB⟩ := hrel
    obtain ⟨W, hW⟩ : ∃ W : World, W = wr := ⟨_, rfl⟩
    rw [← hW] at hS hB ⊢
    clear hW
    obtain ⟨i, hi⟩ : ∃ i, i = l.length := ⟨_, rfl⟩
    have HS := Lib.hid hS
    have HB := Lib.hid hB
    have HI := Lib.hid hi
    rw [← hi] at hl2 ⊢
    clear hS hB hi
    by_cases hlt : i < 2
    · have c0 := plc_at HB.out hlt
      have HLT := Lib.hid hlt
      generalize hq : plc p0 p1 i = q at c0
      have HQ := Lib.hid hq
      clear hq
      have i0 : (0 : Int) ≤ (i : Int) := by omega
      have i1 : (i : Int) < 2 := by omega
      by_cases hv : 1 ≤ q ∧ q ≤ 65536
      · obtain ⟨m, rfl⟩ : ∃ m : Nat, q = (m : Int) := ⟨q.toNat, by omega⟩
        have HM := Lib.hid (show 1 ≤ m ∧ m ≤ 65536 from by omega)
        have H1 := Lib.hid (fun W => RgS.new_ok W m HM.out.1 HM.out.2)
        have H2 := Lib.hid (fun W => RgP.new_ok W m HM.out.1 HM.out.2)
        have H3 := Lib.hid (fun W => qnew_ok W m HM.out.1 HM.out.2)
        clear hv
        go_wp2_with fail
        (with_reducible refine (H1.out _).mono ?_)
        rintro e w3 ⟨b, g, Cs, rfl, h1, n1, n2, f1⟩
        have c1 := f1.cell (World.block_lt_of_cell? _ _ c0) (by simp) |>.trans c0
        have HA1 := Lib.hid (And.intro h1 (And.intro n1 (And.intro n2 f1)))
        clear h1 n1 n2 f1 c0 H1
        go_wp2_with fail
        (with_reducible refine (H2.out _).mono ?_)
        rintro e w4 ⟨c, d, Ds, rfl, h1, n1, n2, f1⟩
        have c2 := f1.cell (World.block_lt_of_cell? _ _ c1) (by simp) |>.trans c1
        have HA2 := Lib.hid (And.intro h1 (And.intro n1 (And.intro n2 f1)))
        clear h1 n1 n2 f1 c1 H2
        go_wp2_with fail
        (with_reducible refine (H3.out _).mono ?_)
        rintro e w5 ⟨rfl, h1, f1⟩
        generalize hr : w4.heap.size = r at h1 ⊢
        have hF5 : Fr [] W w5 := (HA1.out.2.2.2.trans HA2.out.2.2.2 (by simp)).trans f1 (by simp)
        have hs5 := SQ.fr0 HS.out hF5
        have HB5 := Lib.hid (And.intro (hF5.blk HB.out (by simp)) (And.intro (HA1.out.1.fr (HA2.out.2.2.2.trans f1 (by simp)) (by simp) (by simp)) (And.intro (HA2.out.1.fr f1 (by simp) (by simp)) h1)))
        have HF5 := Lib.hid (And.intro hF5 hs5)
        have k1 := hs5.rA.at i (v := .pointer none) (by have := arr_none (l := l.map Tr.r) (by have := HI.out; simp; omega); rw [List.length_map, ← HI.out] at this; exact this)
        have kf := hs5.rA.free i
        have nz : ∀ x ∈ [b, g, c, d, r], W.heap.size ≤ x := fun x hx => by
          have s1 := HA1.out.2.2.2.size
          have s2 := HA2.out.2.2.2.size
          have := HA1.out.2.1
          have := HA1.out.2.2.1
          have := HA2.out.2.1
          have := HA2.out.2.2.1
          simp at hx
          omega
        have HNZ := Lib.hid nz
        clear nz hF5 hs5 h1 f1 c2 H3 HA1 HA2 hr
        obtain ⟨w6, hw6⟩ : ∃ w6, w5.setCell ⟨pa + 2, i, none⟩ (.pointer (some ⟨r, 0, none⟩)) = w6 := ⟨_, rfl⟩
        have hF6 : Fr [pa + 2] w5 w6 := by rw [← hw6]; exact (Fr.refl _ _).setCell _ _ (.inl (by simp))
        have HB6 := Lib.hid (show Blk w6 zb _ _ ∧ RgS.RingAt w6 b g Cs 0 [] (RM.new m) ∧ Blk w6 pa _ 54 ∧ Blk w6 (pa + 1) _ 56 from ⟨hF6.blk HB5.out.1 (by have := HZ.out; simp; omega), HB5.out.2.1.fr hF6 (by have := HNZ.out b (by simp); have := (SQ.rA HS.out).lt; simp; omega) (by have := HNZ.out g (by simp); have := (SQ.rA HS.out).lt; simp; omega), hF6.blk (SQ.pA HF5.out.2) (by simp), hF6.blk (SQ.qA HF5.out.2) (by simp)⟩)
        have k6 : w6.cell? ⟨pa + 2, i, none⟩ = some (.pointer (some ⟨r, 0, none⟩)) := by rw [← hw6]; exact World.cell?_setCell_same' w5 _ _ (by rw [k1]; rfl)
        have HW6 := Lib.hid hw6
        clear hw6 hF6
        go_upto_region 12 with fail
        rw [HW6.out]
        clear k1 kf
        go_wp2_with fail
        clear k6
        refine region_grow (by kernel_rfl) (by kernel_rfl) [.is (.pointer (some ⟨b, 0, none⟩)), .is (.bool false), .is (.bool false), .is (.pointer (some ⟨c, 0, none⟩)), .is (.bool false), .is (.bool false), .is (.bool false), .is (.int .i64 0), .is (.bool false), .is (.bool false), .is (.bool false), .is (.int .i64 0), .is (.bool false), .is (.bool false), .is (.bool false), .is (.pointer (some ⟨b, 0, none⟩)), .is (.int .i64 (m : Nat)), .is (.int .i64 (i : Nat)), .is (.pointer (some ⟨zb, i, none⟩)), .is (.int .i64 (m : Nat)), .is (.bool false), .is (.bool false)] 188 rfl (by kernel_rfl) [(0, 63), (1, 64), (2, 65), (3, 66), (4, 67), (5, 68), (6, 69), (7, 70), (8, 71), (9, 72), (10, 73), (11, 74), (12, 75), (13, 76), (14, 77), (15, 78), (16, 79), (17, 80), (18, 81), (19, 82), (20, 83), (21, 84)] (by kernel_rfl) ?_ ?_
        · intro q a1 W1 i hi hnq hd hG K hK
          have hlt : i < 22 := hi
          have hc : i = 0 ∨ i = 1 ∨ i = 2 ∨ i = 3 ∨ i = 4 ∨ i = 5 ∨ i = 6 ∨ i = 7 ∨ i = 8 ∨ i = 9 ∨ i = 10 ∨ i = 11 ∨ i = 12 ∨ i = 13 ∨ i = 14 ∨ i = 15 ∨ i = 16 ∨ i = 17 ∨ i = 18 ∨ i = 19 ∨ i = 20 ∨ i = 21 := by omega
          rcases hc with rfl | rfl | rfl | rfl | rfl | rfl | rfl | rfl | rfl | rfl | rfl | rfl | rfl | rfl | rfl | rfl | rfl | rfl | rfl | rfl | rfl | rfl
          · have e9 := hG.old 9 (by kernel_rfl)
            refine op_do rfl (wanted_none rfl) hK (fun K' hK' => ?_)
            unfold Oper.wp
            go_simp
            exact hK' _ _ (Fr.refl _ _) rfl
          · have e63 := hG.val (v := .pointer (some ⟨b, 0, none⟩)) 0 63 (hd _ rfl ⟨0, .data⟩ (by simp) rfl) rfl rfl
            refine op_do rfl (wanted_none rfl) hK (fun K' hK' => ?_)
            unfold Oper.wp
            go_simp
            exact hK' _ _ (Fr.refl _ _) rfl
          · have e64 := hG.val (v := .bool false) 1 64 (hd _ rfl ⟨1, .data⟩ (by simp) rfl) rfl rfl
            refine op_do rfl (wanted_none rfl) hK (fun K' hK' => ?_)
            unfold Oper.wp
            go_simp
            exact hK' _ _ (Fr.refl _ _) rfl
          · have e11 := hG.old 11 (by kernel_rfl)
            have eg := hG.val (v := .bool false) 2 65 (hd _ rfl ⟨2, .guard⟩ (by simp) rfl) rfl rfl
            refine op_do rfl (by simp [Region.wanted, yielded, eg]) hK (fun K' hK' => ?_)
            unfold Oper.wp
            go_simp
            exact hK' _ _ (Fr.refl _ _) rfl
          · have e66 := hG.val (v := .pointer (some ⟨c, 0, none⟩)) 3 66 (hd _ rfl ⟨3, .data⟩ (by simp) rfl) rfl rfl
            have eg := hG.val (v := .bool false) 2 65 (hd _ rfl ⟨2, .guard⟩ (by simp) rfl) rfl rfl
            refine op_do rfl (by simp [Region.wanted, yielded, eg]) hK (fun K' hK' => ?_)
            unfold Oper.wp
            go_simp
            exact hK' _ _ (Fr.refl _ _) rfl
          · have e65 := hG.val (v := .bool false) 2 65 (hd _ rfl ⟨2, .data⟩ (by simp) rfl) rfl rfl
            have e67 := hG.val (v := .bool false) 4 67 (hd _ rfl ⟨4, .data⟩ (by simp) rfl) rfl rfl
            refine op_do rfl (wanted_none rfl) hK (fun K' hK' => ?_)
            unfold Oper.wp
            go_simp
            exact hK' _ _ (Fr.refl _ _) rfl
          · have e68 := hG.val (v := .bool false) 5 68 (hd _ rfl ⟨5, .data⟩ (by simp) rfl) rfl rfl
            refine op_do rfl (wanted_none rfl) hK (fun K' hK' => ?_)
            unfold Oper.wp
            go_simp
            exact hK' _ _ (Fr.refl _ _) rfl
          · have e10 := hG.old 10 (by kernel_rfl)
            have eg := hG.val (v := .bool false) 6 69 (hd _ rfl ⟨6, .guard⟩ (by simp) rfl) rfl rfl
            refine op_do rfl (by simp [Region.wanted, yielded, eg]) hK (fun K' hK' => ?_)
            unfold Oper.wp
            go_simp
            exact hK' _ _ (Fr.refl _ _) rfl
          · have e70 := hG.val (v := .int .i64 0) 7 70 (hd _ rfl ⟨7, .data⟩ (by simp) rfl) rfl rfl
            have eg := hG.val (v := .bool false) 6 69 (hd _ rfl ⟨6, .guard⟩ (by simp) rfl) rfl rfl
            refine op_do rfl (by simp [Region.wanted, yielded, eg]) hK (fun K' hK' => ?_)
            unfold Oper.wp
            go_simp
            exact hK' _ _ (Fr.refl _ _) rfl
          · have e69 := hG.val (v := .bool false) 6 69 (hd _ rfl ⟨6, .data⟩ (by simp) rfl) rfl rfl
            have e71 := hG.val (v := .bool false) 8 71 (hd _ rfl ⟨8, .data⟩ (by simp) rfl) rfl rfl
            refine op_do rfl (wanted_none rfl) hK (fun K' hK' => ?_)
            unfold Oper.wp
            go_simp
            exact hK' _ _ (Fr.refl _ _) rfl
          · have e72 := hG.val (v := .bool false) 9 72 (hd _ rfl ⟨9, .data⟩ (by simp) rfl) rfl rfl
            refine op_do rfl (wanted_none rfl) hK (fun K' hK' => ?_)
            unfold Oper.wp
            go_simp
            exact hK' _ _ (Fr.refl _ _) rfl
          · have e12 := hG.old 12 (by kernel_rfl)
            have eg := hG.val (v := .bool false) 10 73 (hd _ rfl ⟨10, .guard⟩ (by simp) rfl) rfl rfl
            refine op_do rfl (by simp [Region.wanted, yielded, eg]) hK (fun K' hK' => ?_)
            unfold Oper.wp
            go_simp
            exact hK' _ _ (Fr.refl _ _) rfl
          · have e74 := hG.val (v := .int .i64 0) 11 74 (hd _ rfl ⟨11, .data⟩ (by simp) rfl) rfl rfl
            have eg := hG.val (v := .bool false) 10 73 (hd _ rfl ⟨10, .guard⟩ (by simp) rfl) rfl rfl
            refine op_do rfl (by simp [Region.wanted, yielded, eg]) hK (fun K' hK' => ?_)
            unfold Oper.wp
            go_simp
            exact hK' _ _ (Fr.refl _ _) rfl
          · have e73 := hG.val (v := .bool false) 10 73 (hd _ rfl ⟨10, .data⟩ (by simp) rfl) rfl rfl
            have e75 := hG.val (v := .bool false) 12 75 (hd _ rfl ⟨12, .data⟩ (by simp) rfl) rfl rfl
            refine op_do rfl (wanted_none rfl) hK (fun K' hK' => ?_)
            unfold Oper.wp
            go_simp
            exact hK' _ _ (Fr.refl _ _) rfl
          · have e76 := hG.val (v := .bool false) 13 76 (hd _ rfl ⟨13, .data⟩ (by simp) rfl) rfl rfl
            refine op_do rfl (wanted_none rfl) hK (fun K' hK' => ?_)
            unfold Oper.wp
            go_simp
            exact hK' _ _ (Fr.refl _ _) rfl
          · have e9 := hG.old 9 (by kernel_rfl)
            have eg := hG.val (v := .bool false) 14 77 (hd _ rfl ⟨14, .guard⟩ (by simp) rfl) rfl rfl
            refine op_do rfl (by simp [Region.wanted, yielded, eg]) hK (fun K' hK' => ?_)
            unfold Oper.wp
            go_simp
            exact hK' _ _ (Fr.refl _ _) rfl
          · have e78 := hG.val (v := .pointer (some ⟨b, 0, none⟩)) 15 78 (hd _ rfl ⟨15, .data⟩ (by simp) rfl) rfl rfl
            have eg := hG.val (v := .bool false) 14 77 (hd _ rfl ⟨14, .guard⟩ (by simp) rfl) rfl rfl
            refine op_do rfl (by simp [Region.wanted, yielded, eg]) hK (fun K' hK' => ?_)
            unfold Oper.wp
            go_simp
            refine (RgS.most_any W1 b g Cs 0 [] _ (HB6.out.2.1.fr hG.grown (by simp) (by simp))).mono ?_
            rintro e W2 ⟨rfl, rfl⟩
            exact hK' _ _ (Fr.refl _ _) rfl
          · have e8 := hG.old 8 (by kernel_rfl)
            have eg := hG.val (v := .bool false) 14 77 (hd _ rfl ⟨14, .guard⟩ (by simp) rfl) rfl rfl
            refine op_do rfl (by simp [Region.wanted, yielded, eg]) hK (fun K' hK' => ?_)
            unfold Oper.wp
            go_simp
            exact hK' _ _ (Fr.refl _ _) rfl
          · have e2 := hG.old 2 (by kernel_rfl)
            have e80 := hG.val (v := .int .i64 (i : Nat)) 17 80 (hd _ rfl ⟨17, .data⟩ (by simp) rfl) rfl rfl
            have eg := hG.val (v := .bool false) 14 77 (hd _ rfl ⟨14, .guard⟩ (by simp) rfl) rfl rfl
            refine op_do rfl (by simp [Region.wanted, yielded, eg]) hK (fun K' hK' => ?_)
            unfold Oper.wp
            go_simp
            exact hK' _ _ (Fr.refl _ _) rfl
          · have e81 := hG.val (v := .pointer (some ⟨zb, i, none⟩)) 18 81 (hd _ rfl ⟨18, .data⟩ (by simp) rfl) rfl rfl
            have eg := hG.val (v := .bool false) 14 77 (hd _ rfl ⟨14, .guard⟩ (by simp) rfl) rfl rfl
            have cz := (plc_at (Fr.blk hG.grown HB6.out.1 (by simp)) HLT.out)
            rw [HQ.out] at cz
            refine op_do rfl (by simp [Region.wanted, yielded, eg]) hK (fun K' hK' => ?_)
            unfold Oper.wp
            go_simp
            exact hK' _ _ (Fr.refl _ _) rfl
          · have e79 := hG.val (v := .int .i64 (m : Nat)) 16 79 (hd _ rfl ⟨16, .data⟩ (by simp) rfl) rfl rfl
            have e82 := hG.val (v := .int .i64 (m : Nat)) 19 82 (hd _ rfl ⟨19, .data⟩ (by simp) rfl) rfl rfl
            have eg := hG.val (v := .bool false) 14 77 (hd _ rfl ⟨14, .guard⟩ (by simp) rfl) rfl rfl
            refine op_do rfl (by simp [Region.wanted, yielded, eg]) hK (fun K' hK' => ?_)
            unfold Oper.wp
            go_simp
            exact hK' _ _ (Fr.refl _ _) rfl
          · have e77 := hG.val (v := .bool false) 14 77 (hd _ rfl ⟨14, .data⟩ (by simp) rfl) rfl rfl
            have e83 := hG.val (v := .bool false) 20 83 (hd _ rfl ⟨20, .data⟩ (by simp) rfl) rfl rfl
            refine op_do rfl (wanted_none rfl) hK (fun K' hK' => ?_)
            unfold Oper.wp
            go_simp
            exact hK' _ _ (Fr.refl _ _) rfl
        · intro vs W1 f1 hv
          have r0 : vs 0 = .pointer (some ⟨b, 0, none⟩) := hv 0 63 (by decide) rfl
          have r1 : vs 1 = .bool false := hv 1 64 (by decide) rfl
          have r2 : vs 2 = .bool false := hv 2 65 (by decide) rfl
          have r3 : vs 3 = .pointer (some ⟨c, 0, none⟩) := hv 3 66 (by decide) rfl
          have r4 : vs 4 = .bool false := hv 4 67 (by decide) rfl
          have r5 : vs 5 = .bool false := hv 5 68 (by decide) rfl
          have r6 : vs 6 = .bool false := hv 6 69 (by decide) rfl
          have r7 : vs 7 = .int .i64 0 := hv 7 70 (by decide) rfl
          have r8 : vs 8 = .bool false := hv 8 71 (by decide) rfl
          have r9 : vs 9 = .bool false := hv 9 72 (by decide) rfl
          have r10 : vs 10 = .bool false := hv 10 73 (by decide) rfl
          have r11 : vs 11 = .int .i64 0 := hv 11 74 (by decide) rfl
          have r12 : vs 12 = .bool false := hv 12 75 (by decide) rfl
          have r13 : vs 13 = .bool false := hv 13 76 (by decide) rfl
          have r14 : vs 14 = .bool false := hv 14 77 (by decide) rfl
          have r15 : vs 15 = .pointer (some ⟨b, 0, none⟩) := hv 15 78 (by decide) rfl
          have r16 : vs 16 = .int .i64 (m : Nat) := hv 16 79 (by decide) rfl
          have r17 : vs 17 = .int .i64 (i : Nat) := hv 17 80 (by decide) rfl
          have r18 : vs 18 = .pointer (some ⟨zb, i, none⟩) := hv 18 81 (by decide) rfl
          have r19 : vs 19 = .int .i64 (m : Nat) := hv 19 82 (by decide) rfl
          have r20 : vs 20 = .bool false := hv 20 83 (by decide) rfl
          have r21 : vs 21 = .bool false := hv 21 84 (by decide) rfl
          simp only [lay, List.foldl_cons, List.foldl_nil, r0, r1, r2, r3, r4, r5, r6, r7, r8, r9, r10, r11, r12, r13, r14, r15, r16, r17, r18, r19, r20, r21]
          simp only [List.setIfInBounds_toArray, List.set_cons_zero, List.set_cons_succ]
          clear hv r0 r1 r2 r3 r4 r5 r6 r7 r8 r9 r10 r11 r12 r13 r14 r15 r16 r17 r18 r19 r20 r21
          have HF6 := Lib.hid f1
          clear f1
          have k2 := Blk.at (Fr.blk HF6.out HB6.out.2.2.1 (by simp)) i (v := .pointer none) (by have := arr_none (l := l.map Tr.b) (by have := HI.out; simp; omega); rw [List.length_map, ← HI.out] at this; exact this)
          have k3 := Blk.at (Fr.blk HF6.out HB6.out.2.2.2 (by simp)) i (v := .pointer none) (by have := arr_none (l := l.map Tr.c) (by have := HI.out; simp; omega); rw [List.length_map, ← HI.out] at this; exact this)
          have g2 := Blk.free (Fr.blk HF6.out HB6.out.2.2.1 (by simp)) i
          have g3 := Blk.free (Fr.blk HF6.out HB6.out.2.2.2 (by simp)) i
          go_wp2
          have hpush := SQ.push2 HS.out (by have := HI.out; omega) (t := ⟨b, g, c, d, r, .slice none 0 0, [], RM.new m⟩) HF5.out.1 ⟨⟨Cs, 0, HB5.out.2.1⟩, ⟨Ds, 0, HB5.out.2.2.1⟩, HB5.out.2.2.2, Nat.zero_le _⟩ ⟨by simp, by simp [RM.new]⟩ HNZ.out (W7 := W1) (by have := HF6.out; rw [← HW6.out, HI.out] at this; exact this)
          rw [← HI.out] at hpush
          have HPU := Lib.hid hpush
          clear hpush
          go_roundw
          case rel => exact ⟨_, by rw [List.length_append, ← HI.out]; go_num, by rw [List.length_append, ← HI.out]; simp; omega, HPU.out, Blk.other (Blk.other (Fr.blk HF6.out HB6.out.1 (by simp)) _ _ (show zb ≠ pa by have := HZ.out; omega)) _ _ (show zb ≠ pa + 1 by have := HZ.out; omega)⟩
          case measure => simp [intOf]; omega
      · have hv' : q < 1 ∨ 65536 < q := by omega
        have H1 := Lib.hid (fun W => RgS.new_no W q hv')
        have H2 := Lib.hid (fun W => RgP.new_no W q hv')
        have H3 := Lib.hid (fun W => qnew_no W q hv')
        have k1 := Blk.at HS.out.rA i (v := .pointer none) (by have := arr_none (l := l.map Tr.r) (by have := HI.out; simp; omega); rw [List.length_map, ← HI.out] at this; exact this)
        have kf := HS.out.rA.free i
        clear hv hv'
        go_wp2_with (first | (go_at_call 18; refine (H1.out _).mono ?_; rintro e w3 ⟨rfl, rfl⟩) | (go_at_call 19; refine (H2.out _).mono ?_; rintro e w3 ⟨rfl, rfl⟩) | (go_at_call 20; refine (H3.out _).mono ?_; rintro e w3 ⟨rfl, rfl⟩))
        exact bodyPost_ret (v := .bool true) (by simp [results, Tryd.results4, go_sem]) rfl ⟨rfl, HS.out.fr.setCell _ _ (.inr (by have := HS.out.low; simp; omega))⟩
    · obtain rfl : i = 2 := by omega
      rw [show (((2 : Nat) : Nat) : Int) = 2 from rfl]
      have HQ0 := Lib.hid (show QI w pa 0 l (.slice none 0 0) [] W from ⟨HS.out, World.ownsRow_nil _ _ _ _, by simp [Value.ownBlock], by simp, by simp⟩)
      go_wp2_with fail
      go_loopw [13, 14] (fun lv n wr => ∃ (k : Nat) (l : List Tr) (κs : List KQ), n = .int .i64 (k : Nat) ∧ k ≤ N ∧ l.length = 2 ∧ QI w pa k l lv κs wr) (fun _ n _ => N - (intOf n).toNat)
      case atStart => exact ⟨0, l, [], rfl, Nat.zero_le _, HI.out.symm, HQ0.out⟩
      case round =>
        clear HQ0 HS HB HI hlt l W
        obtain ⟨k, l, κs, rfl, hk, hl2, hQ⟩ := hrel
        obtain ⟨W, hW⟩ : ∃ W : World, W = wr := ⟨_, rfl⟩
        rw [← hW] at hQ ⊢
        clear hW
        obtain ⟨pv, cv, rfl⟩ := own_form hQ.row
        obtain ⟨nl, hnl⟩ : ∃ nl, nl = κs.length := ⟨_, rfl⟩
        rw [← hnl] at hQ ⊢
        have HNL := Lib.hid hnl
        have HQI := Lib.hid hQ
        have HL2 := Lib.hid hl2
        clear hQ hnl hl2
        by_cases hlt : k < N
        · obtain ⟨gS, oS, cpS, cs4, he, _, _, _, hcell, ⟨hcs4, x1⟩⟩ := HC.out.1.get (k := k) (by have := HC.out.2.1; omega)
          rw [← HC.out.2.1] at he
          cases he
          generalize C[k]'(by have := HC.out.2.1; omega) = s at hcs4 x1
          subst hcs4
          have hz0 : w.cell? ⟨gS, oS + k * 4, none⟩ = some (.int .i64 s.kd) := by simpa using hcell 0 _ rfl
          have hz1 : w.cell? ⟨gS, oS + k * 4 + 1, none⟩ = some (.int .i64 s.on) := hcell 1 _ rfl
          have hz2 : w.cell? ⟨gS, oS + k * 4 + 2, none⟩ = some (.int .i64 s.sv) := hcell 2 _ rfl
          have hz3 : w.cell? ⟨gS, oS + k * 4 + 3, none⟩ = some (.int .i64 s.si) := hcell 3 _ rfl
          have hgS := World.block_lt_of_cell? w _ hz0
          have z0 := (HQI.out.s.fr.cell hgS (by simp)).trans hz0
          have z1 := (HQI.out.s.fr.cell (a := ⟨gS, oS + k * 4 + 1, none⟩) hgS (by simp)).trans hz1
          have z2 := (HQI.out.s.fr.cell (a := ⟨gS, oS + k * 4 + 2, none⟩) hgS (by simp)).trans hz2
          have z3 := (HQI.out.s.fr.cell (a := ⟨gS, oS + k * 4 + 3, none⟩) hgS (by simp)).trans hz3
          have HX := Lib.hid x1
          have l0 : (0 : Int) ≤ (k : Int) := by omega
          have l1 : (k : Int) < (N : Int) := by omega
          clear hcell hz0 hz1 hz2 hz3 hgS x1
          go_upto_region 23 with fail
          obtain ⟨sb, hsb⟩ : ∃ sb, sb = W.heap.size := ⟨_, rfl⟩
          obtain ⟨w3, hw3⟩ : ∃ w3, W.alloc (.cells #[.int .i64 s.kd, .int .i64 s.on, .int .i64 s.sv, .int .i64 s.si] 69) = w3 := ⟨_, rfl⟩
          have f3 : Fr [] W w3 := by rw [← hw3]; exact (Fr.refl _ _).alloc _
          have hb3 : Blk w3 sb #[.int .i64 s.kd, .int .i64 s.on, .int .i64 s.sv, .int .i64 s.si] 69 := by rw [← hw3]; exact Blk.new_at hsb _ _
          have HQ3 := Lib.hid (HQI.out.fr0 f3)
          have d0 := hb3.at 0 (v := .int .i64 s.kd) rfl
          have d1 := hb3.at 1 (v := .int .i64 s.on) rfl
          obtain ⟨j, hj, hj2⟩ : ∃ j : Nat, bits .and .i64 s.on 1 = (j : Int) ∧ j < 2 := by rcases and1 s.on with h | h; exact ⟨0, h, by omega⟩; exact ⟨1, h, by omega⟩
          obtain ⟨t, ht⟩ : ∃ t, l[j]? = some t := ⟨_, List.getElem?_eq_getElem (by have := HL2.out; omega)⟩
          have HT := Lib.hid ht
          have hblk : ∀ x ∈ blks t, pa + 2 < x ∧ x < sb := fun x hx => ⟨(HQI.out.s.tq t (List.mem_of_getElem? ht)).2.2 x hx, by rw [hsb]; exact (HQI.out.s.tq t (List.mem_of_getElem? ht)).1.lts x hx⟩
          have HBL := Lib.hid hblk
          have HB3 := Lib.hid (And.intro hb3 f3)
          rw [hw3, ← hsb]
          clear hw3 hsb f3 hb3 hblk z0 z1 z2 z3 ht
          by_cases h10 : s.kd = 10
          · have HK := Lib.hid h10
            rw [h10] at d0
            clear h10
            have j0 : (0 : Int) ≤ (j : Int) := by omega
            have j1 : (j : Int) < 2 := by omega
            obtain ⟨pr, cr, hvr, -, -, -⟩ := RqAt.form (HQ3.out.s.tq t (List.mem_of_getElem? HT.out)).1.r
            have HVR := Lib.hid hvr
            have HROW := Lib.hid (And.intro HQ3.out.row (show nl + 1 ≤ 4398046511104 by have := HQ3.out.len; rw [← HNL.out] at this; omega))
            clear hvr
            go_upto_region 25 with fail
            clear d0 d1
            refine region_tail (by kernel_rfl) (by kernel_rfl) [[], [], [1], [1, 2], [1, 2, 3], [], [5], [5, 6], [5, 6, 7], [5, 6, 7, 8], [5, 6, 7, 8, 9], [1, 2, 3, 4, 5, 6, 7, 8, 9, 10], [1, 2, 3, 4, 5, 6, 7, 8, 9, 10, 11], [0, 1, 2, 3, 4, 5, 6, 7, 8, 9, 10, 11, 12], [0, 1, 2, 3, 4, 5, 6, 7, 8, 9, 10, 11, 12, 13]] (by kernel_rfl) 13 (by decide) (by kernel_rfl) [.is (.slice pv nl cv), .is (.int .i64 (j : Nat)), .is (.pointer (some ⟨pa, j, none⟩)), .is (.pointer (some ⟨t.b, 0, none⟩)), Stab.allQ w3.heap.size (t.V.map qtx), .is (.int .i64 (j : Nat)), .is (.pointer (some ⟨pa + 2, j, none⟩)), .is (.pointer (some ⟨t.r, 0, none⟩)), .is (.pointer (some ⟨t.r, 0, none⟩)), .is (.pointer (some ⟨t.r, 0, none⟩)), .is (.slice pr t.V.length cr), Stab.keptQ w3.heap.size (t.V.map qtx) (.slice pr t.V.length cr), Stab.oneQ w3.heap.size (t.V.map qtx) (.slice pr t.V.length cr)] 188 rfl (by kernel_rfl) ?_ ?_
            · intro q a1 W1 i hi hnq hd hG K hK
              have hlt : i < 13 := hi
              have hc : i = 0 ∨ i = 1 ∨ i = 2 ∨ i = 3 ∨ i = 4 ∨ i = 5 ∨ i = 6 ∨ i = 7 ∨ i = 8 ∨ i = 9 ∨ i = 10 ∨ i = 11 ∨ i = 12 := by omega
              rcases hc with rfl | rfl | rfl | rfl | rfl | rfl | rfl | rfl | rfl | rfl | rfl | rfl | rfl
              · have e13 := hG.yet 188 (by kernel_rfl) 13 14 (by decide) rfl (fun h => hnq (hG.closed 14 h _ rfl ⟨0, .phase⟩ (by simp) rfl))
                refine op_do rfl (wanted_none rfl) hK (fun K' hK' => ?_)
                unfold Oper.wp
                go_simp
                exact hK' _ _ (Fr.refl _ _) rfl
              · have e16 := hG.old 16 (by kernel_rfl)
                refine op_do rfl (wanted_none rfl) hK (fun K' hK' => ?_)
                unfold Oper.wp
                go_simp
                exact hK' _ _ (Fr.refl _ _) rfl
              · have e5 := hG.old 5 (by kernel_rfl)
                have e108 := hG.val (v := .int .i64 (j : Nat)) 1 108 (hd _ rfl ⟨1, .data⟩ (by simp) rfl) rfl rfl
                refine op_do rfl (wanted_none rfl) hK (fun K' hK' => ?_)
                unfold Oper.wp
                go_simp
                exact hK' _ _ (Fr.refl _ _) rfl
              · have e109 := hG.val (v := .pointer (some ⟨pa, j, none⟩)) 2 109 (hd _ rfl ⟨2, .data⟩ (by simp) rfl) rfl rfl
                have c1 := (HQ3.out.s.cells HT.out (hG.grown.mono (by simp))).1
                refine op_do rfl (wanted_none rfl) hK (fun K' hK' => ?_)
                unfold Oper.wp
                go_simp
                exact hK' _ _ (Fr.refl _ _) rfl
              · have e110 := hG.val (v := .pointer (some ⟨t.b, 0, none⟩)) 3 110 (hd _ rfl ⟨3, .data⟩ (by simp) rfl) rfl rfl
                refine op_do rfl (wanted_none rfl) hK (fun K' hK' => ?_)
                unfold Oper.wp
                go_simp
                obtain ⟨Cs, kf, hp⟩ := ((HQ3.out.s.tq t (List.mem_of_getElem? HT.out)).1.fr0 hG.grown).p
                refine (RgS.all_any W1 _ _ _ _ _ _ hp).mono ?_
                rintro e W2 ⟨kb, vx, rfl, hA, n1, n2, f⟩
                exact hK' _ _ f ⟨kb, vx, rfl, hA, Nat.le_trans hG.grown.size n1, fun g hg => Nat.le_trans hG.grown.size (n2 g hg)⟩
              · have e16 := hG.old 16 (by kernel_rfl)
                refine op_do rfl (wanted_none rfl) hK (fun K' hK' => ?_)
                unfold Oper.wp
                go_simp
                exact hK' _ _ (Fr.refl _ _) rfl
              · have e7 := hG.old 7 (by kernel_rfl)
                have e112 := hG.val (v := .int .i64 (j : Nat)) 5 112 (hd _ rfl ⟨5, .data⟩ (by simp) rfl) rfl rfl
                refine op_do rfl (wanted_none rfl) hK (fun K' hK' => ?_)
                unfold Oper.wp
                go_simp
                exact hK' _ _ (Fr.refl _ _) rfl
              · have e113 := hG.val (v := .pointer (some ⟨pa + 2, j, none⟩)) 6 113 (hd _ rfl ⟨6, .data⟩ (by simp) rfl) rfl rfl
                have c1 := (HQ3.out.s.cells HT.out (hG.grown.mono (by simp))).2.2
                refine op_do rfl (wanted_none rfl) hK (fun K' hK' => ?_)
                unfold Oper.wp
                go_simp
                exact hK' _ _ (Fr.refl _ _) rfl
              · have e114 := hG.val (v := .pointer (some ⟨t.r, 0, none⟩)) 7 114 (hd _ rfl ⟨7, .data⟩ (by simp) rfl) rfl rfl
                refine op_do rfl (wanted_none rfl) hK (fun K' hK' => ?_)
                unfold Oper.wp
                go_simp
                exact hK' _ _ (Fr.refl _ _) rfl
              · have e115 := hG.val (v := .pointer (some ⟨t.r, 0, none⟩)) 8 115 (hd _ rfl ⟨8, .data⟩ (by simp) rfl) rfl rfl
                refine op_do rfl (wanted_none rfl) hK (fun K' hK' => ?_)
                unfold Oper.wp
                go_simp
                exact hK' _ _ (Fr.refl _ _) rfl
              · have e116 := hG.val (v := .pointer (some ⟨t.r, 0, none⟩)) 9 116 (hd _ rfl ⟨9, .data⟩ (by simp) rfl) rfl rfl
                have c1 := ((HQ3.out.s.tq t (List.mem_of_getElem? HT.out)).1.fr0 hG.grown).r.hd.at 0 (v := .slice pr t.V.length cr) (by rw [HVR.out]; rfl)
                refine op_do rfl (wanted_none rfl) hK (fun K' hK' => ?_)
                unfold Oper.wp
                go_simp
                exact hK' _ _ (Fr.refl _ _) rfl
              · obtain ⟨u4, e111, s4⟩ := hG.get 4 111 (hd _ rfl ⟨4, .data⟩ (by simp) rfl) rfl
                have e117 := hG.val (v := .slice pr t.V.length cr) 10 117 (hd _ rfl ⟨10, .data⟩ (by simp) rfl) rfl rfl
                obtain ⟨kb, vx, rfl, hA, hn8⟩ := s4
                refine op_do rfl (wanted_none rfl) hK (fun K' hK' => ?_)
                unfold Oper.wp
                go_simp
                exact hK' _ _ (Fr.refl _ _) ⟨kb, vx, rfl, hA, hn8⟩
              · obtain ⟨u11, e118, s11⟩ := hG.get 11 118 (hd _ rfl ⟨11, .data⟩ (by simp) rfl) rfl
                obtain ⟨kb, vx, rfl, hA, hn8⟩ := s11
                refine op_do rfl (wanted_none rfl) hK (fun K' hK' => ?_)
                unfold Oper.wp
                go_simp
                exact hK' _ _ ((Fr.refl _ _).alloc _) ⟨kb, vx, _, rfl, new_list W1 [.func (.func 50) #[] #[.pointer (some ⟨kb, 0, none⟩)], .slice pr t.V.length cr] 76 _ rfl, by simp, held_fr0 hA ((Fr.refl _ _).alloc _), hn8⟩
            · intro q a1 W1 hq hG
              have f1 := hG.grown
              obtain ⟨vs, hv, rfl⟩ := hG.front 188 rfl (by kernel_rfl) (by decide) hq [(0, 107), (1, 108), (2, 109), (3, 110), (4, 111), (5, 112), (6, 113), (7, 114), (8, 115), (9, 116), (10, 117), (11, 118), (12, 119)] (by kernel_rfl)
              clear hG hq
              have r0 : vs 0 = .slice pv nl cv := hv 0 107 (by decide) rfl
              have r1 : vs 1 = .int .i64 (j : Nat) := hv 1 108 (by decide) rfl
              have r2 : vs 2 = .pointer (some ⟨pa, j, none⟩) := hv 2 109 (by decide) rfl
              have r3 : vs 3 = .pointer (some ⟨t.b, 0, none⟩) := hv 3 110 (by decide) rfl
              have r4 := hv 4 111 (by decide) rfl
              have r5 : vs 5 = .int .i64 (j : Nat) := hv 5 112 (by decide) rfl
              have r6 : vs 6 = .pointer (some ⟨pa + 2, j, none⟩) := hv 6 113 (by decide) rfl
              have r7 : vs 7 = .pointer (some ⟨t.r, 0, none⟩) := hv 7 114 (by decide) rfl
              have r8 : vs 8 = .pointer (some ⟨t.r, 0, none⟩) := hv 8 115 (by decide) rfl
              have r9 : vs 9 = .pointer (some ⟨t.r, 0, none⟩) := hv 9 116 (by decide) rfl
              have r10 : vs 10 = .slice pr t.V.length cr := hv 10 117 (by decide) rfl
              have r11 := hv 11 118 (by decide) rfl
              have r12 := hv 12 119 (by decide) rfl
              simp only [List.drop_succ_cons, List.drop_zero, lay, List.foldl_cons, List.foldl_nil, r0, r1, r2, r3, r5, r6, r7, r8, r9, r10]
              simp only [List.setIfInBounds_toArray, List.set_cons_zero, List.set_cons_succ]
              clear hv r0 r1 r2 r3 r5 r6 r7 r8 r9 r10
              generalize vs 4 = x4 at *
              generalize vs 11 = x11 at *
              generalize vs 12 = x12 at *
              clear vs
              obtain ⟨kb, vx, g8, rfl, hc8, hg8, hh, hn8, hm8⟩ := r12
              have HOW := Lib.hid (And.intro (show W1.ownsRow 0 76 2 (.slice pv nl cv) nl (κs.flatMap encKQ) from by have := own_fr HROW.out.1 f1 (by simp); rw [← HNL.out] at this; exact this) hc8)
              have hfre := HQ3.out.fresh (List.mem_of_getElem? HT.out) HVR.out f1 hh hn8 hm8
              have HMO := Lib.hid (fun (lv' : Value) (w4 : World) (happ : Appended W1 76 2 (.slice pv nl cv) (nl + 1) (κs.flatMap encKQ ++ encKQ (⟨kb, vx, t.V, pr, cr⟩ : KQ)) lv' w4) => HQ3.out.more (κ := (⟨kb, vx, t.V, pr, cr⟩ : KQ)) f1 hfre.1 hfre.2 (by rw [← HNL.out]; exact happ))
              have HFA := Lib.hid (fun (lv' : Value) (w4 : World) (happ : Appended W1 76 2 (.slice pv nl cv) (nl + 1) (κs.flatMap encKQ ++ encKQ (⟨kb, vx, t.V, pr, cr⟩ : KQ)) lv' w4) => And.intro (Fr.blk happ.fr (Fr.blk f1 HB3.out.1 (by simp)) (fun hm => own_notin HROW.out.1 HB3.out.1 (by decide) hm)) trivial)
              clear hfre r4 r11 hc8 hg8 hh hn8 hm8 f1
              go_wp2_with (at_builtin; go_must (refine wpList_app _ rfl _ _ 67 rfl 76 (.agg #[.nilFunc, .slice none 0 0]) 2 32 Tryd.underlying67 infoKQ rfl (by decide) (.slice pv nl cv) nl (κs.flatMap encKQ) rfl HOW.out.1 ⟨g8, 0, none⟩ 1 1 (encKQ (⟨kb, vx, t.V, pr, cr⟩ : KQ)) rfl rfl HOW.out.2 (encKQ_one _) (by have := HROW.out.2; unfold maxLen; omega) (by have := HROW.out.2; omega) ?_); intro v1 w4 happ; obtain ⟨p1, c1, rfl⟩ := own_form happ.own; have HB4 := Lib.hid (HMO.out _ _ happ); have HP26 := Lib.hid (show SQ w pa k l w4 ∧ w4.ownsRow 0 76 2 (.slice p1 (nl + 1) c1) (κs ++ [(⟨kb, vx, t.V, pr, cr⟩ : KQ)]).length ((κs ++ [(⟨kb, vx, t.V, pr, cr⟩ : KQ)]).flatMap encKQ) ∧ (∀ g, (Value.slice p1 (nl + 1) c1).ownBlock = some g → pa + 2 < g) ∧ (κs ++ [(⟨kb, vx, t.V, pr, cr⟩ : KQ)]).length ≤ k + 1 ∧ (∀ κ ∈ κs ++ [(⟨kb, vx, t.V, pr, cr⟩ : KQ)], KqOk κ w4 ∧ ∀ x ∈ kqb κ, ∀ t ∈ l, x ∉ blks t) ∧ Blk w4 sb #[.int .i64 s.kd, .int .i64 s.on, .int .i64 s.sv, .int .i64 s.si] 69 ∧ TB w4 from ⟨HB4.out.1, HB4.out.2.1, HB4.out.2.2.1, by have := HQ3.out.len; rw [List.length_append, List.length_singleton]; omega, HB4.out.2.2.2, (HFA.out _ _ happ).1, HC.out.2.2.fr HB4.out.1.fr (by simp)⟩); clear happ)
              go_upto_region 26 with fail
              refine region_chg (by kernel_rfl) (by kernel_rfl) [some (.int .i64 (j : Nat)), some (.pointer (some ⟨pa, j, none⟩)), some (.pointer (some ⟨t.b, 0, none⟩)), some (.int .i64 (j : Nat)), some (.pointer (some ⟨pa + 1, j, none⟩)), some (.pointer (some ⟨t.c, 0, none⟩)), some (.int .i64 (j : Nat)), some (.pointer (some ⟨pa + 2, j, none⟩)), some (.pointer (some ⟨t.r, 0, none⟩)), some (.agg #[.int .i64 s.kd, .int .i64 s.on, .int .i64 s.sv, .int .i64 s.si]), some (.bool true), some (.bool false), some (.bool false), some (.int .i64 (j : Nat)), some (.pointer (some ⟨pa, j, none⟩)), some (.pointer (some ⟨t.b, 0, none⟩)), some (.int .i64 (j : Nat)), some (.pointer (some ⟨pa + 1, j, none⟩)), some (.pointer (some ⟨t.c, 0, none⟩)), some (.int .i64 (j : Nat)), some (.pointer (some ⟨pa + 2, j, none⟩)), some (.pointer (some ⟨t.r, 0, none⟩)), some (.bool true), some (.bool false), some (.bool false)] (Once t k w4 10) 188 rfl (by kernel_rfl) [(0, 121), (1, 122), (2, 123), (3, 124), (4, 125), (5, 126), (6, 127), (7, 128), (8, 129), (9, 130), (10, 131), (11, 132), (12, 133), (13, 134), (14, 135), (15, 136), (16, 137), (17, 138), (18, 139), (19, 140), (20, 141), (21, 142), (22, 143), (23, 144), (24, 145)] (by kernel_rfl) (Once.start) ?_ ?_
              · intro q a1 W1 i hi hnq hd hG K hK
                have hlt : i < 25 := hi
                have hc : i = 0 ∨ i = 1 ∨ i = 2 ∨ i = 3 ∨ i = 4 ∨ i = 5 ∨ i = 6 ∨ i = 7 ∨ i = 8 ∨ i = 9 ∨ i = 10 ∨ i = 11 ∨ i = 12 ∨ i = 13 ∨ i = 14 ∨ i = 15 ∨ i = 16 ∨ i = 17 ∨ i = 18 ∨ i = 19 ∨ i = 20 ∨ i = 21 ∨ i = 22 ∨ i = 23 ∨ i = 24 := by omega
                have hΨ := hG.world
                rcases hc with rfl | rfl | rfl | rfl | rfl | rfl | rfl | rfl | rfl | rfl | rfl | rfl | rfl | rfl | rfl | rfl | rfl | rfl | rfl | rfl | rfl | rfl | rfl | rfl | rfl
                · have e16 := hG.old 16 (by kernel_rfl)
                  refine op_doC rfl (wanted_none rfl) hK (fun K' hK' => ?_)
                  unfold Oper.wp
                  go_simp
                  exact hK' _ _ (fun u hu => by cases hu; rfl) (hΨ.keep (by decide))
                · have e5 := hG.old 5 (by kernel_rfl)
                  have e121 := hG.val (v := .int .i64 (j : Nat)) 0 121 (hd _ rfl ⟨0, .data⟩ (by simp) rfl) rfl rfl
                  refine op_doC rfl (wanted_none rfl) hK (fun K' hK' => ?_)
                  unfold Oper.wp
                  go_simp
                  exact hK' _ _ (fun u hu => by cases hu; rfl) (hΨ.keep (by decide))
                · have e122 := hG.val (v := .pointer (some ⟨pa, j, none⟩)) 1 122 (hd _ rfl ⟨1, .data⟩ (by simp) rfl) rfl rfl
                  have c1 := (HP26.out.1.cells HT.out hΨ.fr).1
                  refine op_doC rfl (wanted_none rfl) hK (fun K' hK' => ?_)
                  unfold Oper.wp
                  go_simp
                  exact hK' _ _ (fun u hu => by cases hu; rfl) (hΨ.keep (by decide))
                · have e16 := hG.old 16 (by kernel_rfl)
                  refine op_doC rfl (wanted_none rfl) hK (fun K' hK' => ?_)
                  unfold Oper.wp
                  go_simp
                  exact hK' _ _ (fun u hu => by cases hu; rfl) (hΨ.keep (by decide))
                · have e6 := hG.old 6 (by kernel_rfl)
                  have e124 := hG.val (v := .int .i64 (j : Nat)) 3 124 (hd _ rfl ⟨3, .data⟩ (by simp) rfl) rfl rfl
                  refine op_doC rfl (wanted_none rfl) hK (fun K' hK' => ?_)
                  unfold Oper.wp
                  go_simp
                  exact hK' _ _ (fun u hu => by cases hu; rfl) (hΨ.keep (by decide))
                · have e125 := hG.val (v := .pointer (some ⟨pa + 1, j, none⟩)) 4 125 (hd _ rfl ⟨4, .data⟩ (by simp) rfl) rfl rfl
                  have c1 := (HP26.out.1.cells HT.out hΨ.fr).2.1
                  refine op_doC rfl (wanted_none rfl) hK (fun K' hK' => ?_)
                  unfold Oper.wp
                  go_simp
                  exact hK' _ _ (fun u hu => by cases hu; rfl) (hΨ.keep (by decide))
                · have e16 := hG.old 16 (by kernel_rfl)
                  refine op_doC rfl (wanted_none rfl) hK (fun K' hK' => ?_)
                  unfold Oper.wp
                  go_simp
                  exact hK' _ _ (fun u hu => by cases hu; rfl) (hΨ.keep (by decide))
                · have e7 := hG.old 7 (by kernel_rfl)
                  have e127 := hG.val (v := .int .i64 (j : Nat)) 6 127 (hd _ rfl ⟨6, .data⟩ (by simp) rfl) rfl rfl
                  refine op_doC rfl (wanted_none rfl) hK (fun K' hK' => ?_)
                  unfold Oper.wp
                  go_simp
                  exact hK' _ _ (fun u hu => by cases hu; rfl) (hΨ.keep (by decide))
                · have e128 := hG.val (v := .pointer (some ⟨pa + 2, j, none⟩)) 7 128 (hd _ rfl ⟨7, .data⟩ (by simp) rfl) rfl rfl
                  have c1 := (HP26.out.1.cells HT.out hΨ.fr).2.2
                  refine op_doC rfl (wanted_none rfl) hK (fun K' hK' => ?_)
                  unfold Oper.wp
                  go_simp
                  exact hK' _ _ (fun u hu => by cases hu; rfl) (hΨ.keep (by decide))
                · have e15 := hG.old 15 (by kernel_rfl)
                  have hbb := hΨ.fr.blk HP26.out.2.2.2.2.2.1 (fun hm => by have := HBL.out _ hm; omega)
                  have g0 := hbb.at 0 (v := .int .i64 s.kd) rfl
                  have g1 := hbb.at 1 (v := .int .i64 s.on) rfl
                  have g2 := hbb.at 2 (v := .int .i64 s.sv) rfl
                  have g3 := hbb.at 3 (v := .int .i64 s.si) rfl
                  refine op_doC rfl (wanted_none rfl) hK (fun K' hK' => ?_)
                  unfold Oper.wp
                  go_simp
                  exact hK' _ _ (fun u hu => by cases hu; rfl) (hΨ.keep (by decide))
                · have e123 := hG.val (v := .pointer (some ⟨t.b, 0, none⟩)) 2 123 (hd _ rfl ⟨2, .data⟩ (by simp) rfl) rfl rfl
                  have e126 := hG.val (v := .pointer (some ⟨t.c, 0, none⟩)) 5 126 (hd _ rfl ⟨5, .data⟩ (by simp) rfl) rfl rfl
                  have e129 := hG.val (v := .pointer (some ⟨t.r, 0, none⟩)) 8 129 (hd _ rfl ⟨8, .data⟩ (by simp) rfl) rfl rfl
                  have e130 := hG.val (v := .agg #[.int .i64 s.kd, .int .i64 s.on, .int .i64 s.sv, .int .i64 s.si]) 9 130 (hd _ rfl ⟨9, .data⟩ (by simp) rfl) rfl rfl
                  refine op_doC rfl (wanted_none rfl) hK (fun K' hK' => ?_)
                  unfold Oper.wp
                  go_simp
                  refine (qdoes_any W1 t.b t.g t.c t.d t.r k t.vr t.V t.M s.kd s.on s.sv s.si ((HP26.out.1.tq t (List.mem_of_getElem? HT.out)).1.fr0 (hΨ.s0 hnq)) (HP26.out.1.tq t (List.mem_of_getElem? HT.out)).2.1 (by omega) (HP26.out.2.2.2.2.2.2.fr (hΨ.s0 hnq) (by simp)) HX.out (fun hm => by have := HBL.out 0 hm; omega)).mono ?_
                  rintro e W2 ⟨rfl, V', M', hq2, hf2⟩
                  exact hK' _ _ (fun u hu => by cases hu; rfl) (hΨ.one hnq hq2 hf2)
                · have e131 := hG.val (v := .bool true) 10 131 (hd _ rfl ⟨10, .data⟩ (by simp) rfl) rfl rfl
                  refine op_doC rfl (wanted_none rfl) hK (fun K' hK' => ?_)
                  unfold Oper.wp
                  go_simp
                  exact hK' _ _ (fun u hu => by cases hu; rfl) (hΨ.keep (by decide))
                · have e132 := hG.val (v := .bool false) 11 132 (hd _ rfl ⟨11, .data⟩ (by simp) rfl) rfl rfl
                  refine op_doC rfl (wanted_none rfl) hK (fun K' hK' => ?_)
                  unfold Oper.wp
                  go_simp
                  exact hK' _ _ (fun u hu => by cases hu; rfl) (hΨ.keep (by decide))
                · have e16 := hG.old 16 (by kernel_rfl)
                  have eg := hG.val (v := .bool false) 12 133 (hd _ rfl ⟨12, .guard⟩ (by simp) rfl) rfl rfl
                  refine op_doC rfl (by simp [Region.wanted, yielded, eg]) hK (fun K' hK' => ?_)
                  unfold Oper.wp
                  go_simp
                  exact hK' _ _ (fun u hu => by cases hu; rfl) (hΨ.keep (by decide))
                · have e5 := hG.old 5 (by kernel_rfl)
                  have e134 := hG.val (v := .int .i64 (j : Nat)) 13 134 (hd _ rfl ⟨13, .data⟩ (by simp) rfl) rfl rfl
                  have eg := hG.val (v := .bool false) 12 133 (hd _ rfl ⟨12, .guard⟩ (by simp) rfl) rfl rfl
                  refine op_doC rfl (by simp [Region.wanted, yielded, eg]) hK (fun K' hK' => ?_)
                  unfold Oper.wp
                  go_simp
                  exact hK' _ _ (fun u hu => by cases hu; rfl) (hΨ.keep (by decide))
                · have e135 := hG.val (v := .pointer (some ⟨pa, j, none⟩)) 14 135 (hd _ rfl ⟨14, .data⟩ (by simp) rfl) rfl rfl
                  have eg := hG.val (v := .bool false) 12 133 (hd _ rfl ⟨12, .guard⟩ (by simp) rfl) rfl rfl
                  have c1 := (HP26.out.1.cells HT.out hΨ.fr).1
                  refine op_doC rfl (by simp [Region.wanted, yielded, eg]) hK (fun K' hK' => ?_)
                  unfold Oper.wp
                  go_simp
                  exact hK' _ _ (fun u hu => by cases hu; rfl) (hΨ.keep (by decide))
                · have e16 := hG.old 16 (by kernel_rfl)
                  have eg := hG.val (v := .bool false) 12 133 (hd _ rfl ⟨12, .guard⟩ (by simp) rfl) rfl rfl
                  refine op_doC rfl (by simp [Region.wanted, yielded, eg]) hK (fun K' hK' => ?_)
                  unfold Oper.wp
                  go_simp
                  exact hK' _ _ (fun u hu => by cases hu; rfl) (hΨ.keep (by decide))
                · have e6 := hG.old 6 (by kernel_rfl)
                  have e137 := hG.val (v := .int .i64 (j : Nat)) 16 137 (hd _ rfl ⟨16, .data⟩ (by simp) rfl) rfl rfl
                  have eg := hG.val (v := .bool false) 12 133 (hd _ rfl ⟨12, .guard⟩ (by simp) rfl) rfl rfl
                  refine op_doC rfl (by simp [Region.wanted, yielded, eg]) hK (fun K' hK' => ?_)
                  unfold Oper.wp
                  go_simp
                  exact hK' _ _ (fun u hu => by cases hu; rfl) (hΨ.keep (by decide))
                · have e138 := hG.val (v := .pointer (some ⟨pa + 1, j, none⟩)) 17 138 (hd _ rfl ⟨17, .data⟩ (by simp) rfl) rfl rfl
                  have eg := hG.val (v := .bool false) 12 133 (hd _ rfl ⟨12, .guard⟩ (by simp) rfl) rfl rfl
                  have c1 := (HP26.out.1.cells HT.out hΨ.fr).2.1
                  refine op_doC rfl (by simp [Region.wanted, yielded, eg]) hK (fun K' hK' => ?_)
                  unfold Oper.wp
                  go_simp
                  exact hK' _ _ (fun u hu => by cases hu; rfl) (hΨ.keep (by decide))
                · have e16 := hG.old 16 (by kernel_rfl)
                  have eg := hG.val (v := .bool false) 12 133 (hd _ rfl ⟨12, .guard⟩ (by simp) rfl) rfl rfl
                  refine op_doC rfl (by simp [Region.wanted, yielded, eg]) hK (fun K' hK' => ?_)
                  unfold Oper.wp
                  go_simp
                  exact hK' _ _ (fun u hu => by cases hu; rfl) (hΨ.keep (by decide))
                · have e7 := hG.old 7 (by kernel_rfl)
                  have e140 := hG.val (v := .int .i64 (j : Nat)) 19 140 (hd _ rfl ⟨19, .data⟩ (by simp) rfl) rfl rfl
                  have eg := hG.val (v := .bool false) 12 133 (hd _ rfl ⟨12, .guard⟩ (by simp) rfl) rfl rfl
                  refine op_doC rfl (by simp [Region.wanted, yielded, eg]) hK (fun K' hK' => ?_)
                  unfold Oper.wp
                  go_simp
                  exact hK' _ _ (fun u hu => by cases hu; rfl) (hΨ.keep (by decide))
                · have e141 := hG.val (v := .pointer (some ⟨pa + 2, j, none⟩)) 20 141 (hd _ rfl ⟨20, .data⟩ (by simp) rfl) rfl rfl
                  have eg := hG.val (v := .bool false) 12 133 (hd _ rfl ⟨12, .guard⟩ (by simp) rfl) rfl rfl
                  have c1 := (HP26.out.1.cells HT.out hΨ.fr).2.2
                  refine op_doC rfl (by simp [Region.wanted, yielded, eg]) hK (fun K' hK' => ?_)
                  unfold Oper.wp
                  go_simp
                  exact hK' _ _ (fun u hu => by cases hu; rfl) (hΨ.keep (by decide))
                · have e136 := hG.val (v := .pointer (some ⟨t.b, 0, none⟩)) 15 136 (hd _ rfl ⟨15, .data⟩ (by simp) rfl) rfl rfl
                  have e139 := hG.val (v := .pointer (some ⟨t.c, 0, none⟩)) 18 139 (hd _ rfl ⟨18, .data⟩ (by simp) rfl) rfl rfl
                  have e142 := hG.val (v := .pointer (some ⟨t.r, 0, none⟩)) 21 142 (hd _ rfl ⟨21, .data⟩ (by simp) rfl) rfl rfl
                  have eg := hG.val (v := .bool false) 12 133 (hd _ rfl ⟨12, .guard⟩ (by simp) rfl) rfl rfl
                  refine op_doC rfl (by simp [Region.wanted, yielded, eg]) hK (fun K' hK' => ?_)
                  unfold Oper.wp
                  go_simp
                  have q10 : q 10 := hG.closed 12 (hd _ rfl ⟨12, .chain⟩ (by simp) rfl) _ rfl ⟨10, .chain⟩ (by simp) rfl
                  obtain ⟨V', M', ⟨g', d', v', hh, -⟩, -⟩ := hΨ.s1 q10
                  refine (qbooks_any W1 _ _ _ _ _ _ V' M' hh).mono ?_
                  rintro e W2 ⟨rfl, f⟩
                  exact hK' _ _ (fun u hu => by cases hu; rfl) (hΨ.grow (by decide) f)
                · have e143 := hG.val (v := .bool true) 22 143 (hd _ rfl ⟨22, .data⟩ (by simp) rfl) rfl rfl
                  have eg := hG.val (v := .bool false) 12 133 (hd _ rfl ⟨12, .guard⟩ (by simp) rfl) rfl rfl
                  refine op_doC rfl (by simp [Region.wanted, yielded, eg]) hK (fun K' hK' => ?_)
                  unfold Oper.wp
                  go_simp
                  exact hK' _ _ (fun u hu => by cases hu; rfl) (hΨ.keep (by decide))
                · have e133 := hG.val (v := .bool false) 12 133 (hd _ rfl ⟨12, .data⟩ (by simp) rfl) rfl rfl
                  have e144 := hG.val (v := .bool false) 23 144 (hd _ rfl ⟨23, .data⟩ (by simp) rfl) rfl rfl
                  refine op_doC rfl (wanted_none rfl) hK (fun K' hK' => ?_)
                  unfold Oper.wp
                  go_simp
                  exact hK' _ _ (fun u hu => by cases hu; rfl) (hΨ.keep (by decide))
              · intro vs q W1 hq hΨ hv
                have r0 : vs 0 = .int .i64 (j : Nat) := hv 0 121 _ (by decide) rfl rfl
                have r1 : vs 1 = .pointer (some ⟨pa, j, none⟩) := hv 1 122 _ (by decide) rfl rfl
                have r2 : vs 2 = .pointer (some ⟨t.b, 0, none⟩) := hv 2 123 _ (by decide) rfl rfl
                have r3 : vs 3 = .int .i64 (j : Nat) := hv 3 124 _ (by decide) rfl rfl
                have r4 : vs 4 = .pointer (some ⟨pa + 1, j, none⟩) := hv 4 125 _ (by decide) rfl rfl
                have r5 : vs 5 = .pointer (some ⟨t.c, 0, none⟩) := hv 5 126 _ (by decide) rfl rfl
                have r6 : vs 6 = .int .i64 (j : Nat) := hv 6 127 _ (by decide) rfl rfl
                have r7 : vs 7 = .pointer (some ⟨pa + 2, j, none⟩) := hv 7 128 _ (by decide) rfl rfl
                have r8 : vs 8 = .pointer (some ⟨t.r, 0, none⟩) := hv 8 129 _ (by decide) rfl rfl
                have r9 : vs 9 = .agg #[.int .i64 s.kd, .int .i64 s.on, .int .i64 s.sv, .int .i64 s.si] := hv 9 130 _ (by decide) rfl rfl
                have r10 : vs 10 = .bool true := hv 10 131 _ (by decide) rfl rfl
                have r11 : vs 11 = .bool false := hv 11 132 _ (by decide) rfl rfl
                have r12 : vs 12 = .bool false := hv 12 133 _ (by decide) rfl rfl
                have r13 : vs 13 = .int .i64 (j : Nat) := hv 13 134 _ (by decide) rfl rfl
                have r14 : vs 14 = .pointer (some ⟨pa, j, none⟩) := hv 14 135 _ (by decide) rfl rfl
                have r15 : vs 15 = .pointer (some ⟨t.b, 0, none⟩) := hv 15 136 _ (by decide) rfl rfl
                have r16 : vs 16 = .int .i64 (j : Nat) := hv 16 137 _ (by decide) rfl rfl
                have r17 : vs 17 = .pointer (some ⟨pa + 1, j, none⟩) := hv 17 138 _ (by decide) rfl rfl
                have r18 : vs 18 = .pointer (some ⟨t.c, 0, none⟩) := hv 18 139 _ (by decide) rfl rfl
                have r19 : vs 19 = .int .i64 (j : Nat) := hv 19 140 _ (by decide) rfl rfl
                have r20 : vs 20 = .pointer (some ⟨pa + 2, j, none⟩) := hv 20 141 _ (by decide) rfl rfl
                have r21 : vs 21 = .pointer (some ⟨t.r, 0, none⟩) := hv 21 142 _ (by decide) rfl rfl
                have r22 : vs 22 = .bool true := hv 22 143 _ (by decide) rfl rfl
                have r23 : vs 23 = .bool false := hv 23 144 _ (by decide) rfl rfl
                have r24 : vs 24 = .bool false := hv 24 145 _ (by decide) rfl rfl
                simp only [lay, List.foldl_cons, List.foldl_nil, r0, r1, r2, r3, r4, r5, r6, r7, r8, r9, r10, r11, r12, r13, r14, r15, r16, r17, r18, r19, r20, r21, r22, r23, r24] at hΨ ⊢
                simp only [List.setIfInBounds_toArray, List.set_cons_zero, List.set_cons_succ] at hΨ ⊢
                clear hv r0 r1 r2 r3 r4 r5 r6 r7 r8 r9 r10 r11 r12 r13 r14 r15 r16 r17 r18 r19 r20 r21 r22 r23 r24
                obtain ⟨V', M', hq2, hf2⟩ := hΨ.s1 (hq 10 (by decide))
                obtain ⟨t', hQI', -⟩ := QI.step HP26.out.1 HP26.out.2.1 HP26.out.2.2.1 HP26.out.2.2.2.1 HP26.out.2.2.2.2.1 HT.out hq2 hf2
                have HQE := Lib.hid hQI'
                clear hq2 hf2 hQI' hΨ hq
                go_wp2_with fail
                go_roundw
                case rel => exact ⟨k + 1, l.set j t', κs ++ [(⟨kb, vx, t.V, pr, cr⟩ : KQ)], by go_num, by omega, by rw [List.length_set]; exact HL2.out, HQE.out⟩
                case measure => simp [intOf]; omega
          · have j0 : (0 : Int) ≤ (j : Int) := by omega
            have j1 : (j : Int) < 2 := by omega
            have HP26 := Lib.hid (show SQ w pa k l w3 ∧ w3.ownsRow 0 76 2 (.slice pv nl cv) κs.length (κs.flatMap encKQ) ∧ (∀ g, (Value.slice pv nl cv).ownBlock = some g → pa + 2 < g) ∧ κs.length ≤ k + 1 ∧ (∀ κ ∈ κs, KqOk κ w3 ∧ ∀ x ∈ kqb κ, ∀ t ∈ l, x ∉ blks t) ∧ Blk w3 sb #[.int .i64 s.kd, .int .i64 s.on, .int .i64 s.sv, .int .i64 s.si] 69 ∧ TB w3 from ⟨HQ3.out.s, HQ3.out.row, HQ3.out.low, by have := HQ3.out.len; omega, HQ3.out.kept, HB3.out.1, HC.out.2.2.fr HQ3.out.s.fr (by simp)⟩)
            go_upto_region 26 with fail
            clear d0 d1
            refine region_chg (by kernel_rfl) (by kernel_rfl) [some (.int .i64 (j : Nat)), some (.pointer (some ⟨pa, j, none⟩)), some (.pointer (some ⟨t.b, 0, none⟩)), some (.int .i64 (j : Nat)), some (.pointer (some ⟨pa + 1, j, none⟩)), some (.pointer (some ⟨t.c, 0, none⟩)), some (.int .i64 (j : Nat)), some (.pointer (some ⟨pa + 2, j, none⟩)), some (.pointer (some ⟨t.r, 0, none⟩)), some (.agg #[.int .i64 s.kd, .int .i64 s.on, .int .i64 s.sv, .int .i64 s.si]), some (.bool true), some (.bool false), some (.bool false), some (.int .i64 (j : Nat)), some (.pointer (some ⟨pa, j, none⟩)), some (.pointer (some ⟨t.b, 0, none⟩)), some (.int .i64 (j : Nat)), some (.pointer (some ⟨pa + 1, j, none⟩)), some (.pointer (some ⟨t.c, 0, none⟩)), some (.int .i64 (j : Nat)), some (.pointer (some ⟨pa + 2, j, none⟩)), some (.pointer (some ⟨t.r, 0, none⟩)), some (.bool true), some (.bool false), some (.bool false)] (Once t k w3 10) 188 rfl (by kernel_rfl) [(0, 121), (1, 122), (2, 123), (3, 124), (4, 125), (5, 126), (6, 127), (7, 128), (8, 129), (9, 130), (10, 131), (11, 132), (12, 133), (13, 134), (14, 135), (15, 136), (16, 137), (17, 138), (18, 139), (19, 140), (20, 141), (21, 142), (22, 143), (23, 144), (24, 145)] (by kernel_rfl) (Once.start) ?_ ?_
            · intro q a1 W1 i hi hnq hd hG K hK
              have hlt : i < 25 := hi
              have hc : i = 0 ∨ i = 1 ∨ i = 2 ∨ i = 3 ∨ i = 4 ∨ i = 5 ∨ i = 6 ∨ i = 7 ∨ i = 8 ∨ i = 9 ∨ i = 10 ∨ i = 11 ∨ i = 12 ∨ i = 13 ∨ i = 14 ∨ i = 15 ∨ i = 16 ∨ i = 17 ∨ i = 18 ∨ i = 19 ∨ i = 20 ∨ i = 21 ∨ i = 22 ∨ i = 23 ∨ i = 24 := by omega
              have hΨ := hG.world
              rcases hc with rfl | rfl | rfl | rfl | rfl | rfl | rfl | rfl | rfl | rfl | rfl | rfl | rfl | rfl | rfl | rfl | rfl | rfl | rfl | rfl | rfl | rfl | rfl | rfl | rfl
              · have e16 := hG.old 16 (by kernel_rfl)
                refine op_doC rfl (wanted_none rfl) hK (fun K' hK' => ?_)
                unfold Oper.wp
                go_simp
                exact hK' _ _ (fun u hu => by cases hu; rfl) (hΨ.keep (by decide))
              · have e5 := hG.old 5 (by kernel_rfl)
                have e121 := hG.val (v := .int .i64 (j : Nat)) 0 121 (hd _ rfl ⟨0, .data⟩ (by simp) rfl) rfl rfl
                refine op_doC rfl (wanted_none rfl) hK (fun K' hK' => ?_)
                unfold Oper.wp
                go_simp
                exact hK' _ _ (fun u hu => by cases hu; rfl) (hΨ.keep (by decide))
              · have e122 := hG.val (v := .pointer (some ⟨pa, j, none⟩)) 1 122 (hd _ rfl ⟨1, .data⟩ (by simp) rfl) rfl rfl
                have c1 := (HP26.out.1.cells HT.out hΨ.fr).1
                refine op_doC rfl (wanted_none rfl) hK (fun K' hK' => ?_)
                unfold Oper.wp
                go_simp
                exact hK' _ _ (fun u hu => by cases hu; rfl) (hΨ.keep (by decide))
              · have e16 := hG.old 16 (by kernel_rfl)
                refine op_doC rfl (wanted_none rfl) hK (fun K' hK' => ?_)
                unfold Oper.wp
                go_simp
                exact hK' _ _ (fun u hu => by cases hu; rfl) (hΨ.keep (by decide))
              · have e6 := hG.old 6 (by kernel_rfl)
                have e124 := hG.val (v := .int .i64 (j : Nat)) 3 124 (hd _ rfl ⟨3, .data⟩ (by simp) rfl) rfl rfl
                refine op_doC rfl (wanted_none rfl) hK (fun K' hK' => ?_)
                unfold Oper.wp
                go_simp
                exact hK' _ _ (fun u hu => by cases hu; rfl) (hΨ.keep (by decide))
              · have e125 := hG.val (v := .pointer (some ⟨pa + 1, j, none⟩)) 4 125 (hd _ rfl ⟨4, .data⟩ (by simp) rfl) rfl rfl
                have c1 := (HP26.out.1.cells HT.out hΨ.fr).2.1
                refine op_doC rfl (wanted_none rfl) hK (fun K' hK' => ?_)
                unfold Oper.wp
                go_simp
                exact hK' _ _ (fun u hu => by cases hu; rfl) (hΨ.keep (by decide))
              · have e16 := hG.old 16 (by kernel_rfl)
                refine op_doC rfl (wanted_none rfl) hK (fun K' hK' => ?_)
                unfold Oper.wp
                go_simp
                exact hK' _ _ (fun u hu => by cases hu; rfl) (hΨ.keep (by decide))
              · have e7 := hG.old 7 (by kernel_rfl)
                have e127 := hG.val (v := .int .i64 (j : Nat)) 6 127 (hd _ rfl ⟨6, .data⟩ (by simp) rfl) rfl rfl
                refine op_doC rfl (wanted_none rfl) hK (fun K' hK' => ?_)
                unfold Oper.wp
                go_simp
                exact hK' _ _ (fun u hu => by cases hu; rfl) (hΨ.keep (by decide))
              · have e128 := hG.val (v := .pointer (some ⟨pa + 2, j, none⟩)) 7 128 (hd _ rfl ⟨7, .data⟩ (by simp) rfl) rfl rfl
                have c1 := (HP26.out.1.cells HT.out hΨ.fr).2.2
                refine op_doC rfl (wanted_none rfl) hK (fun K' hK' => ?_)
                unfold Oper.wp
                go_simp
                exact hK' _ _ (fun u hu => by cases hu; rfl) (hΨ.keep (by decide))
              · have e15 := hG.old 15 (by kernel_rfl)
                have hbb := hΨ.fr.blk HP26.out.2.2.2.2.2.1 (fun hm => by have := HBL.out _ hm; omega)
                have g0 := hbb.at 0 (v := .int .i64 s.kd) rfl
                have g1 := hbb.at 1 (v := .int .i64 s.on) rfl
                have g2 := hbb.at 2 (v := .int .i64 s.sv) rfl
                have g3 := hbb.at 3 (v := .int .i64 s.si) rfl
                refine op_doC rfl (wanted_none rfl) hK (fun K' hK' => ?_)
                unfold Oper.wp
                go_simp
                exact hK' _ _ (fun u hu => by cases hu; rfl) (hΨ.keep (by decide))
              · have e123 := hG.val (v := .pointer (some ⟨t.b, 0, none⟩)) 2 123 (hd _ rfl ⟨2, .data⟩ (by simp) rfl) rfl rfl
                have e126 := hG.val (v := .pointer (some ⟨t.c, 0, none⟩)) 5 126 (hd _ rfl ⟨5, .data⟩ (by simp) rfl) rfl rfl
                have e129 := hG.val (v := .pointer (some ⟨t.r, 0, none⟩)) 8 129 (hd _ rfl ⟨8, .data⟩ (by simp) rfl) rfl rfl
                have e130 := hG.val (v := .agg #[.int .i64 s.kd, .int .i64 s.on, .int .i64 s.sv, .int .i64 s.si]) 9 130 (hd _ rfl ⟨9, .data⟩ (by simp) rfl) rfl rfl
                refine op_doC rfl (wanted_none rfl) hK (fun K' hK' => ?_)
                unfold Oper.wp
                go_simp
                refine (qdoes_any W1 t.b t.g t.c t.d t.r k t.vr t.V t.M s.kd s.on s.sv s.si ((HP26.out.1.tq t (List.mem_of_getElem? HT.out)).1.fr0 (hΨ.s0 hnq)) (HP26.out.1.tq t (List.mem_of_getElem? HT.out)).2.1 (by omega) (HP26.out.2.2.2.2.2.2.fr (hΨ.s0 hnq) (by simp)) HX.out (fun hm => by have := HBL.out 0 hm; omega)).mono ?_
                rintro e W2 ⟨rfl, V', M', hq2, hf2⟩
                exact hK' _ _ (fun u hu => by cases hu; rfl) (hΨ.one hnq hq2 hf2)
              · have e131 := hG.val (v := .bool true) 10 131 (hd _ rfl ⟨10, .data⟩ (by simp) rfl) rfl rfl
                refine op_doC rfl (wanted_none rfl) hK (fun K' hK' => ?_)
                unfold Oper.wp
                go_simp
                exact hK' _ _ (fun u hu => by cases hu; rfl) (hΨ.keep (by decide))
              · have e132 := hG.val (v := .bool false) 11 132 (hd _ rfl ⟨11, .data⟩ (by simp) rfl) rfl rfl
                refine op_doC rfl (wanted_none rfl) hK (fun K' hK' => ?_)
                unfold Oper.wp
                go_simp
                exact hK' _ _ (fun u hu => by cases hu; rfl) (hΨ.keep (by decide))
              · have e16 := hG.old 16 (by kernel_rfl)
                have eg := hG.val (v := .bool false) 12 133 (hd _ rfl ⟨12, .guard⟩ (by simp) rfl) rfl rfl
                refine op_doC rfl (by simp [Region.wanted, yielded, eg]) hK (fun K' hK' => ?_)
                unfold Oper.wp
                go_simp
                exact hK' _ _ (fun u hu => by cases hu; rfl) (hΨ.keep (by decide))
              · have e5 := hG.old 5 (by kernel_rfl)
                have e134 := hG.val (v := .int .i64 (j : Nat)) 13 134 (hd _ rfl ⟨13, .data⟩ (by simp) rfl) rfl rfl
                have eg := hG.val (v := .bool false) 12 133 (hd _ rfl ⟨12, .guard⟩ (by simp) rfl) rfl rfl
                refine op_doC rfl (by simp [Region.wanted, yielded, eg]) hK (fun K' hK' => ?_)
                unfold Oper.wp
                go_simp
                exact hK' _ _ (fun u hu => by cases hu; rfl) (hΨ.keep (by decide))
              · have e135 := hG.val (v := .pointer (some ⟨pa, j, none⟩)) 14 135 (hd _ rfl ⟨14, .data⟩ (by simp) rfl) rfl rfl
                have eg := hG.val (v := .bool false) 12 133 (hd _ rfl ⟨12, .guard⟩ (by simp) rfl) rfl rfl
                have c1 := (HP26.out.1.cells HT.out hΨ.fr).1
                refine op_doC rfl (by simp [Region.wanted, yielded, eg]) hK (fun K' hK' => ?_)
                unfold Oper.wp
                go_simp
                exact hK' _ _ (fun u hu => by cases hu; rfl) (hΨ.keep (by decide))
              · have e16 := hG.old 16 (by kernel_rfl)
                have eg := hG.val (v := .bool false) 12 133 (hd _ rfl ⟨12, .guard⟩ (by simp) rfl) rfl rfl
                refine op_doC rfl (by simp [Region.wanted, yielded, eg]) hK (fun K' hK' => ?_)
                unfold Oper.wp
                go_simp
                exact hK' _ _ (fun u hu => by cases hu; rfl) (hΨ.keep (by decide))
              · have e6 := hG.old 6 (by kernel_rfl)
                have e137 := hG.val (v := .int .i64 (j : Nat)) 16 137 (hd _ rfl ⟨16, .data⟩ (by simp) rfl) rfl rfl
                have eg := hG.val (v := .bool false) 12 133 (hd _ rfl ⟨12, .guard⟩ (by simp) rfl) rfl rfl
                refine op_doC rfl (by simp [Region.wanted, yielded, eg]) hK (fun K' hK' => ?_)
                unfold Oper.wp
                go_simp
                exact hK' _ _ (fun u hu => by cases hu; rfl) (hΨ.keep (by decide))
              · have e138 := hG.val (v := .pointer (some ⟨pa + 1, j, none⟩)) 17 138 (hd _ rfl ⟨17, .data⟩ (by simp) rfl) rfl rfl
                have eg := hG.val (v := .bool false) 12 133 (hd _ rfl ⟨12, .guard⟩ (by simp) rfl) rfl rfl
                have c1 := (HP26.out.1.cells HT.out hΨ.fr).2.1
                refine op_doC rfl (by simp [Region.wanted, yielded, eg]) hK (fun K' hK' => ?_)
                unfold Oper.wp
                go_simp
                exact hK' _ _ (fun u hu => by cases hu; rfl) (hΨ.keep (by decide))
              · have e16 := hG.old 16 (by kernel_rfl)
                have eg := hG.val (v := .bool false) 12 133 (hd _ rfl ⟨12, .guard⟩ (by simp) rfl) rfl rfl
                refine op_doC rfl (by simp [Region.wanted, yielded, eg]) hK (fun K' hK' => ?_)
                unfold Oper.wp
                go_simp
                exact hK' _ _ (fun u hu => by cases hu; rfl) (hΨ.keep (by decide))
              · have e7 := hG.old 7 (by kernel_rfl)
                have e140 := hG.val (v := .int .i64 (j : Nat)) 19 140 (hd _ rfl ⟨19, .data⟩ (by simp) rfl) rfl rfl
                have eg := hG.val (v := .bool false) 12 133 (hd _ rfl ⟨12, .guard⟩ (by simp) rfl) rfl rfl
                refine op_doC rfl (by simp [Region.wanted, yielded, eg]) hK (fun K' hK' => ?_)
                unfold Oper.wp
                go_simp
                exact hK' _ _ (fun u hu => by cases hu; rfl) (hΨ.keep (by decide))
              · have e141 := hG.val (v := .pointer (some ⟨pa + 2, j, none⟩)) 20 141 (hd _ rfl ⟨20, .data⟩ (by simp) rfl) rfl rfl
                have eg := hG.val (v := .bool false) 12 133 (hd _ rfl ⟨12, .guard⟩ (by simp) rfl) rfl rfl
                have c1 := (HP26.out.1.cells HT.out hΨ.fr).2.2
                refine op_doC rfl (by simp [Region.wanted, yielded, eg]) hK (fun K' hK' => ?_)
                unfold Oper.wp
                go_simp
                exact hK' _ _ (fun u hu => by cases hu; rfl) (hΨ.keep (by decide))
              · have e136 := hG.val (v := .pointer (some ⟨t.b, 0, none⟩)) 15 136 (hd _ rfl ⟨15, .data⟩ (by simp) rfl) rfl rfl
                have e139 := hG.val (v := .pointer (some ⟨t.c, 0, none⟩)) 18 139 (hd _ rfl ⟨18, .data⟩ (by simp) rfl) rfl rfl
                have e142 := hG.val (v := .pointer (some ⟨t.r, 0, none⟩)) 21 142 (hd _ rfl ⟨21, .data⟩ (by simp) rfl) rfl rfl
                have eg := hG.val (v := .bool false) 12 133 (hd _ rfl ⟨12, .guard⟩ (by simp) rfl) rfl rfl
                refine op_doC rfl (by simp [Region.wanted, yielded, eg]) hK (fun K' hK' => ?_)
                unfold Oper.wp
                go_simp
                have q10 : q 10 := hG.closed 12 (hd _ rfl ⟨12, .chain⟩ (by simp) rfl) _ rfl ⟨10, .chain⟩ (by simp) rfl
                obtain ⟨V', M', ⟨g', d', v', hh, -⟩, -⟩ := hΨ.s1 q10
                refine (qbooks_any W1 _ _ _ _ _ _ V' M' hh).mono ?_
                rintro e W2 ⟨rfl, f⟩
                exact hK' _ _ (fun u hu => by cases hu; rfl) (hΨ.grow (by decide) f)
              · have e143 := hG.val (v := .bool true) 22 143 (hd _ rfl ⟨22, .data⟩ (by simp) rfl) rfl rfl
                have eg := hG.val (v := .bool false) 12 133 (hd _ rfl ⟨12, .guard⟩ (by simp) rfl) rfl rfl
                refine op_doC rfl (by simp [Region.wanted, yielded, eg]) hK (fun K' hK' => ?_)
                unfold Oper.wp
                go_simp
                exact hK' _ _ (fun u hu => by cases hu; rfl) (hΨ.keep (by decide))
              · have e133 := hG.val (v := .bool false) 12 133 (hd _ rfl ⟨12, .data⟩ (by simp) rfl) rfl rfl
                have e144 := hG.val (v := .bool false) 23 144 (hd _ rfl ⟨23, .data⟩ (by simp) rfl) rfl rfl
                refine op_doC rfl (wanted_none rfl) hK (fun K' hK' => ?_)
                unfold Oper.wp
                go_simp
                exact hK' _ _ (fun u hu => by cases hu; rfl) (hΨ.keep (by decide))
            · intro vs q W1 hq hΨ hv
              have r0 : vs 0 = .int .i64 (j : Nat) := hv 0 121 _ (by decide) rfl rfl
              have r1 : vs 1 = .pointer (some ⟨pa, j, none⟩) := hv 1 122 _ (by decide) rfl rfl
              have r2 : vs 2 = .pointer (some ⟨t.b, 0, none⟩) := hv 2 123 _ (by decide) rfl rfl
              have r3 : vs 3 = .int .i64 (j : Nat) := hv 3 124 _ (by decide) rfl rfl
              have r4 : vs 4 = .pointer (some ⟨pa + 1, j, none⟩) := hv 4 125 _ (by decide) rfl rfl
              have r5 : vs 5 = .pointer (some ⟨t.c, 0, none⟩) := hv 5 126 _ (by decide) rfl rfl
              have r6 : vs 6 = .int .i64 (j : Nat) := hv 6 127 _ (by decide) rfl rfl
              have r7 : vs 7 = .pointer (some ⟨pa + 2, j, none⟩) := hv 7 128 _ (by decide) rfl rfl
              have r8 : vs 8 = .pointer (some ⟨t.r, 0, none⟩) := hv 8 129 _ (by decide) rfl rfl
              have r9 : vs 9 = .agg #[.int .i64 s.kd, .int .i64 s.on, .int .i64 s.sv, .int .i64 s.si] := hv 9 130 _ (by decide) rfl rfl
              have r10 : vs 10 = .bool true := hv 10 131 _ (by decide) rfl rfl
              have r11 : vs 11 = .bool false := hv 11 132 _ (by decide) rfl rfl
              have r12 : vs 12 = .bool false := hv 12 133 _ (by decide) rfl rfl
              have r13 : vs 13 = .int .i64 (j : Nat) := hv 13 134 _ (by decide) rfl rfl
              have r14 : vs 14 = .pointer (some ⟨pa, j, none⟩) := hv 14 135 _ (by decide) rfl rfl
              have r15 : vs 15 = .pointer (some ⟨t.b, 0, none⟩) := hv 15 136 _ (by decide) rfl rfl
              have r16 : vs 16 = .int .i64 (j : Nat) := hv 16 137 _ (by decide) rfl rfl
              have r17 : vs 17 = .pointer (some ⟨pa + 1, j, none⟩) := hv 17 138 _ (by decide) rfl rfl
              have r18 : vs 18 = .pointer (some ⟨t.c, 0, none⟩) := hv 18 139 _ (by decide) rfl rfl
              have r19 : vs 19 = .int .i64 (j : Nat) := hv 19 140 _ (by decide) rfl rfl
              have r20 : vs 20 = .pointer (some ⟨pa + 2, j, none⟩) := hv 20 141 _ (by decide) rfl rfl
              have r21 : vs 21 = .pointer (some ⟨t.r, 0, none⟩) := hv 21 142 _ (by decide) rfl rfl
              have r22 : vs 22 = .bool true := hv 22 143 _ (by decide) rfl rfl
              have r23 : vs 23 = .bool false := hv 23 144 _ (by decide) rfl rfl
              have r24 : vs 24 = .bool false := hv 24 145 _ (by decide) rfl rfl
              simp only [lay, List.foldl_cons, List.foldl_nil, r0, r1, r2, r3, r4, r5, r6, r7, r8, r9, r10, r11, r12, r13, r14, r15, r16, r17, r18, r19, r20, r21, r22, r23, r24] at hΨ ⊢
              simp only [List.setIfInBounds_toArray, List.set_cons_zero, List.set_cons_succ] at hΨ ⊢
              clear hv r0 r1 r2 r3 r4 r5 r6 r7 r8 r9 r10 r11 r12 r13 r14 r15 r16 r17 r18 r19 r20 r21 r22 r23 r24
              obtain ⟨V', M', hq2, hf2⟩ := hΨ.s1 (hq 10 (by decide))
              obtain ⟨t', hQI', -⟩ := QI.step HP26.out.1 HP26.out.2.1 HP26.out.2.2.1 HP26.out.2.2.2.1 HP26.out.2.2.2.2.1 HT.out hq2 hf2
              have HQE := Lib.hid hQI'
              clear hq2 hf2 hQI' hΨ hq
              go_wp2_with fail
              exact ⟨⟨k + 1, l.set j t', κs, by go_num, by omega, by rw [List.length_set]; exact HL2.out, HQE.out⟩, by simp [intOf]; omega⟩
        · obtain rfl : N = k := by omega
          have hnl6 : nl ≤ 4398046511104 := by have := HQI.out.len; rw [← HNL.out] at this; omega
          go_wp2_with fail
          go_loopw [17] (fun i wr => ∃ jj : Nat, i = .int .i64 (jj : Nat) ∧ jj ≤ nl ∧ Fr [] W wr) (fun i _ => nl - (intOf i).toNat)
          case atStart => exact ⟨0, rfl, Nat.zero_le _, Fr.refl _ _⟩
          case round =>
            obtain ⟨jj, rfl, hjj, hf⟩ := hrel
            obtain ⟨wi, hwi⟩ : ∃ wi : World, wi = wr := ⟨_, rfl⟩
            rw [← hwi] at hf ⊢
            clear hwi
            have HF := Lib.hid hf
            by_cases h2 : jj < nl
            · obtain ⟨κ, hκ⟩ : ∃ κ, κs[jj]? = some κ := ⟨_, List.getElem?_eq_getElem (by have := HNL.out; omega)⟩
              have hrow := RdF.of_own (by decide) (own_fr HQI.out.row hf (by simp)) (by have := HNL.out; unfold maxLen; omega)
              obtain ⟨gK, oK, cK, hv, -, -, hc⟩ := RdF.at encKQ encKQ_len hrow hκ
              rw [← HNL.out] at hv
              obtain ⟨rfl, -, -⟩ := Value.slice.inj hv
              have z0 : wi.cell? ⟨gK, oK + jj * 2, none⟩ = some (.func (.func 50) #[] #[.pointer (some ⟨κ.bl, 0, none⟩)]) := by have := hc 0 _ rfl; simpa [Nat.add_assoc] using this
              have z1 : wi.cell? ⟨gK, oK + jj * 2 + 1, none⟩ = some (.slice κ.p κ.V.length κ.c) := by have := hc 1 _ rfl; simpa [Nat.add_assoc] using this
              have HCC := Lib.hid (((HQI.out.kept κ (List.mem_of_getElem? hκ)).1.fr hf (by simp)).tells (HC.out.2.2.fr (HQI.out.s.fr.trans hf (by simp)) (by simp)))
              have l0 : (0 : Int) ≤ (jj : Int) := by omega
              have l1 : (jj : Int) < (nl : Int) := by omega
              clear hrow hv hc hκ hf
              go_wp2_with fail
              (with_reducible refine (HCC.out).mono ?_)
              rintro e w5 ⟨rfl, f5⟩
              have HF5 := Lib.hid f5
              clear f5 HCC z0 z1
              go_wp2_with fail
              exact ⟨⟨jj + 1, by go_num, by omega, HF.out.trans HF5.out (by simp)⟩, by simp [intOf]; omega⟩
            · obtain rfl : nl = jj := by omega
              clear hf
              go_wp2_with fail
              go_loopw [18] (fun i wr => ∃ jj : Nat, i = .int .i64 (jj : Nat) ∧ jj ≤ 2 ∧ Fr [] wi wr) (fun i _ => 2 - (intOf i).toNat)
              case atStart => exact ⟨0, rfl, Nat.zero_le _, Fr.refl _ _⟩
              case round =>
                obtain ⟨j, rfl, hj2, hf⟩ := hrel
                obtain ⟨wj, hwj⟩ : ∃ wj : World, wj = wr := ⟨_, rfl⟩
                rw [← hwj] at hf ⊢
                clear hwj
                have HG := Lib.hid hf
                clear hf
                by_cases h2 : j < 2
                · have HQ3 := Lib.hid ((HQI.out.fr0 HF.out).fr0 HG.out)
                  obtain ⟨t, ht⟩ : ∃ t, l[j]? = some t := ⟨_, List.getElem?_eq_getElem (by have := HL2.out; omega)⟩
                  have HT := Lib.hid ht
                  obtain ⟨pr, cr, hvr, -, -, -⟩ := RqAt.form (HQ3.out.s.tq t (List.mem_of_getElem? HT.out)).1.r
                  have HVR := Lib.hid hvr
                  have j0 : (0 : Int) ≤ (j : Int) := by omega
                  have j1 : (j : Int) < 2 := by omega
                  clear ht hvr
                  go_wp2_with fail
                  refine region_grow (by kernel_rfl) (by kernel_rfl) [.is (.int .i64 (j : Nat)), .is (.pointer (some ⟨pa, j, none⟩)), .is (.pointer (some ⟨t.b, 0, none⟩)), .is (.int .i64 (j : Nat)), .is (.pointer (some ⟨pa + 1, j, none⟩)), .is (.pointer (some ⟨t.c, 0, none⟩)), .is (.int .i64 (j : Nat)), .is (.pointer (some ⟨pa + 2, j, none⟩)), .is (.pointer (some ⟨t.r, 0, none⟩)), .is (.bool true), .is (.bool false), .is (.bool false), .is (.int .i64 (j : Nat)), .is (.pointer (some ⟨pa, j, none⟩)), .is (.pointer (some ⟨t.b, 0, none⟩)), Stab.allQ wj.heap.size (t.V.map qtx), .is (.int .i64 (j : Nat)), .is (.pointer (some ⟨pa + 2, j, none⟩)), .is (.pointer (some ⟨t.r, 0, none⟩)), .is (.pointer (some ⟨t.r, 0, none⟩)), .is (.pointer (some ⟨t.r, 0, none⟩)), .is (.slice pr t.V.length cr), Stab.keptQ wj.heap.size (t.V.map qtx) (.slice pr t.V.length cr), .is (.bool true), .is (.bool false), .is (.bool false)] 188 rfl (by kernel_rfl) [(0, 162), (1, 163), (2, 164), (3, 165), (4, 166), (5, 167), (6, 168), (7, 169), (8, 170), (9, 171), (10, 172), (11, 173), (12, 174), (13, 175), (14, 176), (15, 177), (16, 178), (17, 179), (18, 180), (19, 181), (20, 182), (21, 183), (22, 184), (23, 185), (24, 186), (25, 187)] (by kernel_rfl) ?_ ?_
                  · intro q a1 W1 i hi hnq hd hG K hK
                    have hlt : i < 26 := hi
                    have hc : i = 0 ∨ i = 1 ∨ i = 2 ∨ i = 3 ∨ i = 4 ∨ i = 5 ∨ i = 6 ∨ i = 7 ∨ i = 8 ∨ i = 9 ∨ i = 10 ∨ i = 11 ∨ i = 12 ∨ i = 13 ∨ i = 14 ∨ i = 15 ∨ i = 16 ∨ i = 17 ∨ i = 18 ∨ i = 19 ∨ i = 20 ∨ i = 21 ∨ i = 22 ∨ i = 23 ∨ i = 24 ∨ i = 25 := by omega
                    rcases hc with rfl | rfl | rfl | rfl | rfl | rfl | rfl | rfl | rfl | rfl | rfl | rfl | rfl | rfl | rfl | rfl | rfl | rfl | rfl | rfl | rfl | rfl | rfl | rfl | rfl | rfl
                    · have e18 := hG.old 18 (by kernel_rfl)
                      refine op_do rfl (wanted_none rfl) hK (fun K' hK' => ?_)
                      unfold Oper.wp
                      go_simp
                      exact hK' _ _ (Fr.refl _ _) rfl
                    · have e5 := hG.old 5 (by kernel_rfl)
                      have e162 := hG.val (v := .int .i64 (j : Nat)) 0 162 (hd _ rfl ⟨0, .data⟩ (by simp) rfl) rfl rfl
                      refine op_do rfl (wanted_none rfl) hK (fun K' hK' => ?_)
                      unfold Oper.wp
                      go_simp
                      exact hK' _ _ (Fr.refl _ _) rfl
                    · have e163 := hG.val (v := .pointer (some ⟨pa, j, none⟩)) 1 163 (hd _ rfl ⟨1, .data⟩ (by simp) rfl) rfl rfl
                      have c1 := (HQ3.out.s.cells HT.out (hG.grown.mono (by simp))).1
                      refine op_do rfl (wanted_none rfl) hK (fun K' hK' => ?_)
                      unfold Oper.wp
                      go_simp
                      exact hK' _ _ (Fr.refl _ _) rfl
                    · have e18 := hG.old 18 (by kernel_rfl)
                      refine op_do rfl (wanted_none rfl) hK (fun K' hK' => ?_)
                      unfold Oper.wp
                      go_simp
                      exact hK' _ _ (Fr.refl _ _) rfl
                    · have e6 := hG.old 6 (by kernel_rfl)
                      have e165 := hG.val (v := .int .i64 (j : Nat)) 3 165 (hd _ rfl ⟨3, .data⟩ (by simp) rfl) rfl rfl
                      refine op_do rfl (wanted_none rfl) hK (fun K' hK' => ?_)
                      unfold Oper.wp
                      go_simp
                      exact hK' _ _ (Fr.refl _ _) rfl
                    · have e166 := hG.val (v := .pointer (some ⟨pa + 1, j, none⟩)) 4 166 (hd _ rfl ⟨4, .data⟩ (by simp) rfl) rfl rfl
                      have c1 := (HQ3.out.s.cells HT.out (hG.grown.mono (by simp))).2.1
                      refine op_do rfl (wanted_none rfl) hK (fun K' hK' => ?_)
                      unfold Oper.wp
                      go_simp
                      exact hK' _ _ (Fr.refl _ _) rfl
                    · have e18 := hG.old 18 (by kernel_rfl)
                      refine op_do rfl (wanted_none rfl) hK (fun K' hK' => ?_)
                      unfold Oper.wp
                      go_simp
                      exact hK' _ _ (Fr.refl _ _) rfl
                    · have e7 := hG.old 7 (by kernel_rfl)
                      have e168 := hG.val (v := .int .i64 (j : Nat)) 6 168 (hd _ rfl ⟨6, .data⟩ (by simp) rfl) rfl rfl
                      refine op_do rfl (wanted_none rfl) hK (fun K' hK' => ?_)
                      unfold Oper.wp
                      go_simp
                      exact hK' _ _ (Fr.refl _ _) rfl
                    · have e169 := hG.val (v := .pointer (some ⟨pa + 2, j, none⟩)) 7 169 (hd _ rfl ⟨7, .data⟩ (by simp) rfl) rfl rfl
                      have c1 := (HQ3.out.s.cells HT.out (hG.grown.mono (by simp))).2.2
                      refine op_do rfl (wanted_none rfl) hK (fun K' hK' => ?_)
                      unfold Oper.wp
                      go_simp
                      exact hK' _ _ (Fr.refl _ _) rfl
                    · have e164 := hG.val (v := .pointer (some ⟨t.b, 0, none⟩)) 2 164 (hd _ rfl ⟨2, .data⟩ (by simp) rfl) rfl rfl
                      have e167 := hG.val (v := .pointer (some ⟨t.c, 0, none⟩)) 5 167 (hd _ rfl ⟨5, .data⟩ (by simp) rfl) rfl rfl
                      have e170 := hG.val (v := .pointer (some ⟨t.r, 0, none⟩)) 8 170 (hd _ rfl ⟨8, .data⟩ (by simp) rfl) rfl rfl
                      refine op_do rfl (wanted_none rfl) hK (fun K' hK' => ?_)
                      unfold Oper.wp
                      go_simp
                      refine (qbooks_any W1 _ _ _ _ _ _ _ _ ((HQ3.out.s.tq t (List.mem_of_getElem? HT.out)).1.fr0 hG.grown)).mono ?_
                      rintro e W2 ⟨rfl, f⟩
                      exact hK' _ _ f rfl
                    · have e171 := hG.val (v := .bool true) 9 171 (hd _ rfl ⟨9, .data⟩ (by simp) rfl) rfl rfl
                      refine op_do rfl (wanted_none rfl) hK (fun K' hK' => ?_)
                      unfold Oper.wp
                      go_simp
                      exact hK' _ _ (Fr.refl _ _) rfl
                    · have e172 := hG.val (v := .bool false) 10 172 (hd _ rfl ⟨10, .data⟩ (by simp) rfl) rfl rfl
                      refine op_do rfl (wanted_none rfl) hK (fun K' hK' => ?_)
                      unfold Oper.wp
                      go_simp
                      exact hK' _ _ (Fr.refl _ _) rfl
                    · have e18 := hG.old 18 (by kernel_rfl)
                      have eg := hG.val (v := .bool false) 11 173 (hd _ rfl ⟨11, .guard⟩ (by simp) rfl) rfl rfl
                      refine op_do rfl (by simp [Region.wanted, yielded, eg]) hK (fun K' hK' => ?_)
                      unfold Oper.wp
                      go_simp
                      exact hK' _ _ (Fr.refl _ _) rfl
                    · have e5 := hG.old 5 (by kernel_rfl)
                      have e174 := hG.val (v := .int .i64 (j : Nat)) 12 174 (hd _ rfl ⟨12, .data⟩ (by simp) rfl) rfl rfl
                      have eg := hG.val (v := .bool false) 11 173 (hd _ rfl ⟨11, .guard⟩ (by simp) rfl) rfl rfl
                      refine op_do rfl (by simp [Region.wanted, yielded, eg]) hK (fun K' hK' => ?_)
                      unfold Oper.wp
                      go_simp
                      exact hK' _ _ (Fr.refl _ _) rfl
                    · have e175 := hG.val (v := .pointer (some ⟨pa, j, none⟩)) 13 175 (hd _ rfl ⟨13, .data⟩ (by simp) rfl) rfl rfl
                      have eg := hG.val (v := .bool false) 11 173 (hd _ rfl ⟨11, .guard⟩ (by simp) rfl) rfl rfl
                      have c1 := (HQ3.out.s.cells HT.out (hG.grown.mono (by simp))).1
                      refine op_do rfl (by simp [Region.wanted, yielded, eg]) hK (fun K' hK' => ?_)
                      unfold Oper.wp
                      go_simp
                      exact hK' _ _ (Fr.refl _ _) rfl
                    · have e176 := hG.val (v := .pointer (some ⟨t.b, 0, none⟩)) 14 176 (hd _ rfl ⟨14, .data⟩ (by simp) rfl) rfl rfl
                      have eg := hG.val (v := .bool false) 11 173 (hd _ rfl ⟨11, .guard⟩ (by simp) rfl) rfl rfl
                      refine op_do rfl (by simp [Region.wanted, yielded, eg]) hK (fun K' hK' => ?_)
                      unfold Oper.wp
                      go_simp
                      obtain ⟨Cs, kf, hp⟩ := ((HQ3.out.s.tq t (List.mem_of_getElem? HT.out)).1.fr0 hG.grown).p
                      refine (RgS.all_any W1 _ _ _ _ _ _ hp).mono ?_
                      rintro e W2 ⟨kb, vx, rfl, hA, n1, n2, f⟩
                      exact hK' _ _ f ⟨kb, vx, rfl, hA, Nat.le_trans hG.grown.size n1, fun g hg => Nat.le_trans hG.grown.size (n2 g hg)⟩
                    · have e18 := hG.old 18 (by kernel_rfl)
                      have eg := hG.val (v := .bool false) 11 173 (hd _ rfl ⟨11, .guard⟩ (by simp) rfl) rfl rfl
                      refine op_do rfl (by simp [Region.wanted, yielded, eg]) hK (fun K' hK' => ?_)
                      unfold Oper.wp
                      go_simp
                      exact hK' _ _ (Fr.refl _ _) rfl
                    · have e7 := hG.old 7 (by kernel_rfl)
                      have e178 := hG.val (v := .int .i64 (j : Nat)) 16 178 (hd _ rfl ⟨16, .data⟩ (by simp) rfl) rfl rfl
                      have eg := hG.val (v := .bool false) 11 173 (hd _ rfl ⟨11, .guard⟩ (by simp) rfl) rfl rfl
                      refine op_do rfl (by simp [Region.wanted, yielded, eg]) hK (fun K' hK' => ?_)
                      unfold Oper.wp
                      go_simp
                      exact hK' _ _ (Fr.refl _ _) rfl
                    · have e179 := hG.val (v := .pointer (some ⟨pa + 2, j, none⟩)) 17 179 (hd _ rfl ⟨17, .data⟩ (by simp) rfl) rfl rfl
                      have eg := hG.val (v := .bool false) 11 173 (hd _ rfl ⟨11, .guard⟩ (by simp) rfl) rfl rfl
                      have c1 := (HQ3.out.s.cells HT.out (hG.grown.mono (by simp))).2.2
                      refine op_do rfl (by simp [Region.wanted, yielded, eg]) hK (fun K' hK' => ?_)
                      unfold Oper.wp
                      go_simp
                      exact hK' _ _ (Fr.refl _ _) rfl
                    · have e180 := hG.val (v := .pointer (some ⟨t.r, 0, none⟩)) 18 180 (hd _ rfl ⟨18, .data⟩ (by simp) rfl) rfl rfl
                      have eg := hG.val (v := .bool false) 11 173 (hd _ rfl ⟨11, .guard⟩ (by simp) rfl) rfl rfl
                      refine op_do rfl (by simp [Region.wanted, yielded, eg]) hK (fun K' hK' => ?_)
                      unfold Oper.wp
                      go_simp
                      exact hK' _ _ (Fr.refl _ _) rfl
                    · have e181 := hG.val (v := .pointer (some ⟨t.r, 0, none⟩)) 19 181 (hd _ rfl ⟨19, .data⟩ (by simp) rfl) rfl rfl
                      have eg := hG.val (v := .bool false) 11 173 (hd _ rfl ⟨11, .guard⟩ (by simp) rfl) rfl rfl
                      refine op_do rfl (by simp [Region.wanted, yielded, eg]) hK (fun K' hK' => ?_)
                      unfold Oper.wp
                      go_simp
                      exact hK' _ _ (Fr.refl _ _) rfl
                    · have e182 := hG.val (v := .pointer (some ⟨t.r, 0, none⟩)) 20 182 (hd _ rfl ⟨20, .data⟩ (by simp) rfl) rfl rfl
                      have eg := hG.val (v := .bool false) 11 173 (hd _ rfl ⟨11, .guard⟩ (by simp) rfl) rfl rfl
                      have c1 := ((HQ3.out.s.tq t (List.mem_of_getElem? HT.out)).1.fr0 hG.grown).r.hd.at 0 (v := .slice pr t.V.length cr) (by rw [HVR.out]; rfl)
                      refine op_do rfl (by simp [Region.wanted, yielded, eg]) hK (fun K' hK' => ?_)
                      unfold Oper.wp
                      go_simp
                      exact hK' _ _ (Fr.refl _ _) rfl
                    · obtain ⟨u15, e177, s15⟩ := hG.get 15 177 (hd _ rfl ⟨15, .data⟩ (by simp) rfl) rfl
                      have e183 := hG.val (v := .slice pr t.V.length cr) 21 183 (hd _ rfl ⟨21, .data⟩ (by simp) rfl) rfl rfl
                      have eg := hG.val (v := .bool false) 11 173 (hd _ rfl ⟨11, .guard⟩ (by simp) rfl) rfl rfl
                      obtain ⟨kb, vx, rfl, hA, hn8⟩ := s15
                      refine op_do rfl (by simp [Region.wanted, yielded, eg]) hK (fun K' hK' => ?_)
                      unfold Oper.wp
                      go_simp
                      exact hK' _ _ (Fr.refl _ _) ⟨kb, vx, rfl, hA, hn8⟩
                    · obtain ⟨u22, e184, s22⟩ := hG.get 22 184 (hd _ rfl ⟨22, .data⟩ (by simp) rfl) rfl
                      have eg := hG.val (v := .bool false) 11 173 (hd _ rfl ⟨11, .guard⟩ (by simp) rfl) rfl rfl
                      obtain ⟨kb, vx, rfl, hA, hn8⟩ := s22
                      refine op_do rfl (by simp [Region.wanted, yielded, eg]) hK (fun K' hK' => ?_)
                      unfold Oper.wp
                      go_simp
                      have htq := (HQ3.out.s.tq t (List.mem_of_getElem? HT.out))
                      have hkq : KqOk ⟨kb, vx, t.V, pr, cr⟩ W1 := ⟨hA, by have := (htq.1.fr0 hG.grown).r.own; rw [HVR.out] at this; exact this, by have := htq.1.len; show t.V.length ≤ 65536; omega, htq.2.1.num⟩
                      refine (hkq.tells (HC.out.2.2.fr (HQ3.out.s.fr.trans hG.grown (by simp)) (by simp))).mono ?_
                      rintro e W2 ⟨rfl, f⟩
                      exact hK' _ _ f rfl
                    · have e185 := hG.val (v := .bool true) 23 185 (hd _ rfl ⟨23, .data⟩ (by simp) rfl) rfl rfl
                      have eg := hG.val (v := .bool false) 11 173 (hd _ rfl ⟨11, .guard⟩ (by simp) rfl) rfl rfl
                      refine op_do rfl (by simp [Region.wanted, yielded, eg]) hK (fun K' hK' => ?_)
                      unfold Oper.wp
                      go_simp
                      exact hK' _ _ (Fr.refl _ _) rfl
                    · have e173 := hG.val (v := .bool false) 11 173 (hd _ rfl ⟨11, .data⟩ (by simp) rfl) rfl rfl
                      have e186 := hG.val (v := .bool false) 24 186 (hd _ rfl ⟨24, .data⟩ (by simp) rfl) rfl rfl
                      refine op_do rfl (wanted_none rfl) hK (fun K' hK' => ?_)
                      unfold Oper.wp
                      go_simp
                      exact hK' _ _ (Fr.refl _ _) rfl
                  · intro vs W1 f1 hv
                    have r0 : vs 0 = .int .i64 (j : Nat) := hv 0 162 (by decide) rfl
                    have r1 : vs 1 = .pointer (some ⟨pa, j, none⟩) := hv 1 163 (by decide) rfl
                    have r2 : vs 2 = .pointer (some ⟨t.b, 0, none⟩) := hv 2 164 (by decide) rfl
                    have r3 : vs 3 = .int .i64 (j : Nat) := hv 3 165 (by decide) rfl
                    have r4 : vs 4 = .pointer (some ⟨pa + 1, j, none⟩) := hv 4 166 (by decide) rfl
                    have r5 : vs 5 = .pointer (some ⟨t.c, 0, none⟩) := hv 5 167 (by decide) rfl
                    have r6 : vs 6 = .int .i64 (j : Nat) := hv 6 168 (by decide) rfl
                    have r7 : vs 7 = .pointer (some ⟨pa + 2, j, none⟩) := hv 7 169 (by decide) rfl
                    have r8 : vs 8 = .pointer (some ⟨t.r, 0, none⟩) := hv 8 170 (by decide) rfl
                    have r9 : vs 9 = .bool true := hv 9 171 (by decide) rfl
                    have r10 : vs 10 = .bool false := hv 10 172 (by decide) rfl
                    have r11 : vs 11 = .bool false := hv 11 173 (by decide) rfl
                    have r12 : vs 12 = .int .i64 (j : Nat) := hv 12 174 (by decide) rfl
                    have r13 : vs 13 = .pointer (some ⟨pa, j, none⟩) := hv 13 175 (by decide) rfl
                    have r14 : vs 14 = .pointer (some ⟨t.b, 0, none⟩) := hv 14 176 (by decide) rfl
                    have r15 := hv 15 177 (by decide) rfl
                    have r16 : vs 16 = .int .i64 (j : Nat) := hv 16 178 (by decide) rfl
                    have r17 : vs 17 = .pointer (some ⟨pa + 2, j, none⟩) := hv 17 179 (by decide) rfl
                    have r18 : vs 18 = .pointer (some ⟨t.r, 0, none⟩) := hv 18 180 (by decide) rfl
                    have r19 : vs 19 = .pointer (some ⟨t.r, 0, none⟩) := hv 19 181 (by decide) rfl
                    have r20 : vs 20 = .pointer (some ⟨t.r, 0, none⟩) := hv 20 182 (by decide) rfl
                    have r21 : vs 21 = .slice pr t.V.length cr := hv 21 183 (by decide) rfl
                    have r22 := hv 22 184 (by decide) rfl
                    have r23 : vs 23 = .bool true := hv 23 185 (by decide) rfl
                    have r24 : vs 24 = .bool false := hv 24 186 (by decide) rfl
                    have r25 : vs 25 = .bool false := hv 25 187 (by decide) rfl
                    simp only [lay, List.foldl_cons, List.foldl_nil, r0, r1, r2, r3, r4, r5, r6, r7, r8, r9, r10, r11, r12, r13, r14, r16, r17, r18, r19, r20, r21, r23, r24, r25]
                    simp only [List.setIfInBounds_toArray, List.set_cons_zero, List.set_cons_succ]
                    clear hv r0 r1 r2 r3 r4 r5 r6 r7 r8 r9 r10 r11 r12 r13 r14 r16 r17 r18 r19 r20 r21 r23 r24 r25
                    generalize vs 15 = x15 at *
                    generalize vs 22 = x22 at *
                    have HF1 := Lib.hid f1
                    clear f1 r15 r22
                    go_wp2_with fail
                    exact ⟨⟨j + 1, by go_num, by omega, HG.out.trans HF1.out (by simp)⟩, by simp [intOf]; omega⟩
                · obtain rfl : j = 2 := by omega
                  rw [show (((2 : Nat) : Nat) : Int) = 2 from rfl]
                  go_wp2_with fail
                  exact bodyPost_ret (v := .bool true) (by simp [results, Tryd.results4, go_sem]) rfl ⟨rfl, (HQI.out.s.fr.trans HF.out (by simp)).trans HG.out (by simp)⟩
end Qu
end Go.Proofs.YtiimmndhinoaiaaDoor
