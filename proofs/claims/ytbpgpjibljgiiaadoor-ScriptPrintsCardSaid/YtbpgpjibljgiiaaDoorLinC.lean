/-
  Script: a script's lines behind the second: a step each. Printed by genLic.py.
-/
import Derived.Test.YtbpgpjibljgiiaaDoorLinB
namespace Go.Proofs.YtbpgpjibljgiiaaDoor
open Go.RowKit
set_option linter.unusedVariables false
set_option linter.unusedSimpArgs false
attribute [local go_sem] Oper.semAt_some
theorem put_ne {a : Act} {d t : Nat} (h : t ≠ d) (v : Value) : (a.put (some d) v).tmps[t]? = a.tmps[t]? := by
  unfold Act.put
  exact Array.getElem?_setIfInBounds_ne (Ne.symm h)
theorem put_eq {a : Act} {d : Nat} (h : d < a.tmps.size) (v : Value) : (a.put (some d) v).tmps[d]? = some v := by
  unfold Act.put
  simp [h]
section
variable {P : Program}
theorem wp_app {w : World} {o : Oper} {a : Act} {K : Act → World → Prop} {Q : Exit → Act → World → Prop} (hgd : o.guard = none) (s x : Operand) (t : TypeId)
    (hop : o.op = .call { callee := .builtin .append, args := #[s, x], argTypes := #[t, t] })
    (e : TypeId) (z : Value) (size bytes : Nat) (h1 : P.underlying t = some (.slice e)) (h2 : (P.info? e).map (fun i => (i.zero, i.size, i.bytes)) = some (some z, size, bytes)) (h6 : z.cells.size = size) (h7 : 0 < size)
    (v : Value) (k : Nat) (xs : List Value) (hs : a.eval s = v) (hown : w.ownsRow 0 e size v k xs) (ad : Addr) (m c : Nat) (news : List Value) (hx : a.eval x = .slice (some ad) m c) (hn : news.length = m * size)
    (hc : ∀ j u, news[j]? = some u → w.cell? (ad.add j) = some u) (h1c : ∀ u ∈ news, u.oneCell' = true) (b1 : k + m ≤ maxLen) (b2 : (k + m) * bytes ≤ 140737488355328)
    (hK : ∀ v' w', Appended w e size v (k + m) (xs ++ news) v' w' → K (a.put o.dst v') w') :
    Oper.wp P o a w K Q := by
  obtain ⟨i, hi, hz, hsz, hby⟩ := info_parts h2
  obtain ⟨v', w', hrun, r1, r2, -⟩ := run_append_own (P := P) w 0 t o.type e i z size bytes h1 hi hz hsz hby h6 h7 v k xs hown ad m c news hn hc h1c b1 b2 (Nat.zero_le _)
  have r4 := run_app_where w t o.type e i z size bytes h1 hi hz hsz hby v k xs hown ad m c news hn hc h1c b1 b2 v' w' hrun
  unfold Oper.wp execOp
  simp only [hop, resolve, invoke, builtin, Sem.run_bind, Sem.run_pure, Result.andThen_ok, List.map_toArray, List.map_cons, List.map_nil, hs, hx, hrun]
  exact hK v' w' ⟨r1, r2, r4⟩
end
/-- A region in which one list grows: ib makes what is put on, ia puts it on, the last one, s, stores the list into a field. -/
structure ApQ (w0 : World) (sc off : Nat) (v : Value) (n : Nat) (xs cs : List Value) (tb ta ib ia s : Nat) (p : Nat → Prop) (f : Nat → Option Value) (W : World) : Prop where
  a : ¬ p ia → Fr [] w0 W ∧ (p ib → ∃ bl, f tb = some (.slice (some ⟨bl, 0, none⟩) 1 1) ∧ Blk W bl cs.toArray 44)
  b : p ia → ¬ p s → ∃ v' W1, f ta = some v' ∧ Fr [] w0 W1 ∧ Appended W1 44 5 v (n + 1) (xs ++ cs) v' W
  c : p s → ∃ v' W1 W2, Fr [] w0 W1 ∧ Appended W1 44 5 v (n + 1) (xs ++ cs) v' W2 ∧ W = W2.setCell ⟨sc, off, none⟩ v'
theorem ApQ.start {w0 : World} {sc off : Nat} {v : Value} {n : Nat} {xs cs : List Value} {tb ta ib ia s : Nat} {f : Nat → Option Value} : ApQ w0 sc off v n xs cs tb ta ib ia s (fun _ => False) f w0.drew := ⟨fun _ => ⟨(Fr.refl _ _).drew, fun h => h.elim⟩, fun h => h.elim, fun h => h.elim⟩
theorem ApQ.keep {w0 W : World} {sc off : Nat} {v : Value} {n : Nat} {xs cs : List Value} {tb ta ib ia s i : Nat} {p : Nat → Prop} {f g : Nat → Option Value} (h : ApQ w0 sc off v n xs cs tb ta ib ia s p f W) (h1 : ib ≠ i) (h2 : ia ≠ i) (h3 : s ≠ i) (e1 : g tb = f tb) (e2 : g ta = f ta) : ApQ w0 sc off v n xs cs tb ta ib ia s (fun k => p k ∨ k = i) g W :=
  ⟨fun q => ⟨(h.a (fun z => q (.inl z))).1, fun q2 => by rw [e1]; exact (h.a (fun z => q (.inl z))).2 (q2.resolve_right h1)⟩, fun q1 q2 => by rw [e2]; exact h.b (q1.resolve_right h2) (fun z => q2 (.inl z)), fun q => h.c (q.resolve_right h3)⟩
namespace Sc
theorem infoSt : (Tryd.prog.info? 44).map (fun i => (i.zero, i.size, i.bytes)) = some (some zeroStep, 5, 56) := by kernel_rfl
/-- The cells of a list of steps. -/
def rowC (C : List (St × Value)) : List Value := C.flatMap fun p => p.1.cells p.2
structure StepsV (W : World) (n0 : Nat) (v : Value) (C : List (St × Value)) : Prop where
  own : W.ownsRow 0 44 5 v C.length (rowC C)
  blk : ∀ g, v.ownBlock = some g → n0 ≤ g
  byt : ∀ x ∈ C, BytV W n0 x.2 x.1.by'
theorem BytV.form {W : World} {n0 : Nat} {v : Value} {l : List Int} (h : BytV W n0 v l) : ∃ p c, v = .slice p l.length c := own_form h.1
theorem BytV.ne {W : World} {n0 b : Nat} {v : Value} {l : List Int} {c : Array Value} {e : TypeId} (h : BytV W n0 v l) (hb : Blk W b c e) (he : 5 ≠ e) : ∀ g, v.ownBlock = some g → g ≠ b := fun g hg q => own_ne h.1 hg hb he q.symm
theorem Appended.start {W W1 W2 : World} {v v' : Value} {n : Nat} {xs : List Value} (h : Appended W1 44 5 v n xs v' W2) (f : Fr [] W W1) : ∀ g, v'.ownBlock = some g → v.ownBlock = some g ∨ W.heap.size ≤ g := fun g hg => by
  rcases h.place with q | q
  · exact .inl (by rw [← q]; exact hg)
  · rw [q] at hg
    cases hg
    exact .inr f.size
set_option maxRecDepth 100000 in
set_option maxHeartbeats 8000000 in
theorem line_step (w : World) (r gF sc n n0 : Nat) (F : List ByteArray) (cfg : List Int) (v : Value) (C : List (St × Value)) (h : RowAt w r gF F 0) (hF : 0 < F.length) (hFs : ∀ s ∈ F, s.size ≤ 4294967296) (hs : Blk w sc (scrC cfg v) 29) (hc : cfg.length = 11) (hv : StepsV w n0 v C) (hC : C.length ≤ 4294967296) (hn : 3 ≤ n) (hn0 : n0 ≤ w.heap.size) :
    Calls Tryd.prog 27 #[.pointer (some ⟨r, 0, none⟩), .int .i64 n, .pointer (some ⟨sc, 0, none⟩)] w fun e w' => ∃ fv, e = .returned fv ∧ FaultV w' w.heap.size fv (stepF F) ∧ Fr (r :: sc :: v.ownBlock.toList) w w' ∧ (stepF F = none → ∃ v' bv, Blk w' sc (scrC cfg v') 29 ∧ StepsV w' n0 v' (C ++ [(stepS F, bv)])) := by
  have HT := Lib.hid (fun W (h : RowAt W r gF F 0) => step_any W r gF F h hF hFs)
  have HR := Lib.hid h
  have HC := Lib.hid (And.intro hs (And.intro hc (And.intro hv (And.intro hC hn0))))
  have z1 : ((n : Int) == 1) = false := by rw [beq_eq_false_iff_ne]; omega
  have z2 : ((n : Int) == 2) = false := by rw [beq_eq_false_iff_ne]; omega
  have z3 : (2 : Int) < (n : Int) := by omega
  obtain ⟨fl, hfl⟩ : ∃ fl, fl = stepF F := ⟨_, rfl⟩
  obtain ⟨st, hst⟩ : ∃ st, st = stepS F := ⟨_, rfl⟩
  have HTT := Lib.hid (show ∀ W (h : RowAt W r gF F 0), Calls Tryd.prog 40 #[.pointer (some ⟨r, 0, none⟩)] W fun e w' => StepQ W r gF F (stepK F) fl st.val st.by' e w' from by rw [hfl, hst]; exact HT.out)
  rw [← hfl, ← hst]
  clear h hF hs hc hv hC hfl hst HT hn hFs hn0
  go_enter Tryd.func27, Tryd.ntmps27
  go_wp2_with fail
  (with_reducible refine (HTT.out _ HR.out).mono ?_)
  rintro e w1 ⟨fv, bv, rfl, hp, hbv⟩
  have hsc1 := hp.2.2.blk HC.out.1 (by have := HR.out.hd.ne HC.out.1 (by decide); simp; omega)
  cases fl with
  | some q =>
    obtain ⟨b, rfl, hb, hn⟩ : ∃ b, fv = .pointer (some ⟨b, 0, none⟩) ∧ Blk w1 b #[.int .i64 q.1, .int .i64 q.2] 66 ∧ w.heap.size ≤ b := hp.2.1
    have HP := Lib.hid (And.intro hb (And.intro hn hp.2.2))
    rw [show (if (some q : Flt).isSome then zeroStep else st.val bv) = .agg #[.int .u8 0, .int .i64 0, .int .i64 0, .int .i64 0, .slice none 0 0] from rfl]
    have q4 : can5 (w1.alloc (.cells #[.int .u8 0, .int .i64 0, .int .i64 0, .int .i64 0, .slice none 0 0] 44)) w1.heap.size = true := (Blk.new w1 _ 44).can5
    have o1 : (Value.int .u8 0).oneCell' = true := rfl
    have o2 : (Value.int .i64 0).oneCell' = true := rfl
    have o3 : (Value.slice none 0 0).oneCell' = true := rfl
    clear hp hb hn hsc1 hbv
    go_wp2_with fail
    go_ret
    have hl : Fr [] w1 (layS (w1.alloc (.cells #[.int .u8 0, .int .i64 0, .int .i64 0, .int .i64 0, .slice none 0 0] 44)) w1.heap.size (.int .u8 0) (.int .i64 0) (.int .i64 0) (.int .i64 0) (.slice none 0 0)) := ((Fr.refl [] w1).alloc _).lay _ _ _ _ _ _ (.inr (Nat.le_refl _))
    exact ⟨_, rfl, ⟨b, rfl, hl.blk HP.out.1 (by simp), HP.out.2.1⟩, (HP.out.2.2.mono (by simp)).trans hl (by simp), fun h => by cases h⟩
  | none =>
    obtain rfl : fv = .pointer none := hp.2.1
    rw [show (if (none : Flt).isSome then zeroStep else st.val bv) = .agg #[.int .u8 st.kd, .int .i64 st.la, .int .i64 st.sl, .int .i64 st.pl, bv] from rfl]
    have hbv : BytV w1 w.heap.size bv st.by' := hbv
    obtain ⟨bp, bc, rfl⟩ := hbv.form
    obtain ⟨bv, hbe⟩ : ∃ bv, bv = Value.slice bp st.by'.length bc := ⟨_, rfl⟩
    have HBE := Lib.hid hbe
    rw [← hbe] at hbv ⊢
    obtain ⟨p, c, hve⟩ := own_form HC.out.2.2.1.own
    subst hve
    have q4 : can5 (w1.alloc (.cells #[.int .u8 0, .int .i64 0, .int .i64 0, .int .i64 0, .slice none 0 0] 44)) w1.heap.size = true := (Blk.new w1 _ 44).can5
    have o1 : (Value.int .u8 st.kd).oneCell' = true := rfl
    have o2 : ∀ z : Int, (Value.int .i64 z).oneCell' = true := fun _ => rfl
    have o3 : bv.oneCell' = true := by rw [hbe]; rfl
    have O3 := Lib.hid o3
    obtain ⟨w9, hw9⟩ : ∃ w9, layS (w1.alloc (.cells #[.int .u8 0, .int .i64 0, .int .i64 0, .int .i64 0, .slice none 0 0] 44)) w1.heap.size (.int .u8 st.kd) (.int .i64 st.la) (.int .i64 st.sl) (.int .i64 st.pl) bv = w9 := ⟨_, rfl⟩
    have f9 : Fr [] w1 w9 := by rw [← hw9]; exact ((Fr.refl [] w1).alloc _).lay _ _ _ _ _ _ (.inr (Nat.le_refl _))
    have hx : Blk w9 w1.heap.size #[.int .u8 st.kd, .int .i64 st.la, .int .i64 st.sl, .int .i64 st.pl, bv] 44 := by rw [← hw9]; exact (Blk.new w1 _ 44).lay _ _ _ _ _
    obtain ⟨xb, hxb⟩ : ∃ xb, xb = w1.heap.size := ⟨_, rfl⟩
    have hfr1 : Fr [r] w w1 := hp.2.2
    have hn1 : ∀ g, (Value.slice p C.length c).ownBlock = some g → g ∉ [r] := fun g hg => by have := own_ne HC.out.2.2.1.own hg HR.out.hd (by decide); simp; omega
    have hst1 : StepsV w9 n0 (.slice p C.length c) C := ⟨own_fr (own_fr HC.out.2.2.1.own hfr1 hn1) f9 (by simp), HC.out.2.2.1.blk, fun x hx => ((HC.out.2.2.1.byt x hx).fr' hfr1 (fun g hg => by have := (HC.out.2.2.1.byt x hx).ne HR.out.hd (by decide) g hg; simp; omega)).fr' f9 (by simp)⟩
    have H9 := Lib.hid (show Blk w9 xb _ 44 ∧ Blk w9 sc (scrC cfg (.slice p C.length c)) 29 ∧ cfg.length = 11 ∧ w9.ownsRow 0 44 5 (.slice p C.length c) C.length (rowC C) ∧ (∀ u ∈ st.cells bv, u.oneCell' = true) ∧ C.length ≤ 4294967296 from ⟨by rw [hxb]; exact hx, f9.blk hsc1 (by simp), HC.out.2.1, hst1.own, fun u hu => by
      simp only [St.cells, List.mem_cons, List.not_mem_nil, or_false] at hu
      rcases hu with rfl | rfl | rfl | rfl | rfl
      · rfl
      · rfl
      · rfl
      · rfl
      · exact O3.out, HC.out.2.2.2.1⟩)
    have HST := Lib.hid (And.intro hst1 (And.intro (hbv.fr' f9 (by simp)) (And.intro (hfr1.trans f9 (by simp)) HR.out)))
    have HW9 := Lib.hid hw9
    have HXB := Lib.hid hxb
    clear hp hbv hx f9 hw9 hfr1 hn1 hst1 hsc1 hbe hxb
    go_upto_region 29 with fail
    rw [HW9.out, ← HXB.out]
    clear q4 o1 o2 o3
    refine region_chg (by kernel_rfl) (by kernel_rfl) [some (.pointer (some ⟨sc, 0, none⟩)), some (.pointer (some ⟨sc, 0, none⟩)), some (.pointer (some ⟨sc, 0, none⟩)), some (.pointer (some ⟨sc, 11, none⟩)), some (.slice p C.length c), some (.agg #[.int .u8 st.kd, .int .i64 st.la, .int .i64 st.sl, .int .i64 st.pl, bv]), none, none, some (.pointer (some ⟨sc, 0, none⟩)), some (.pointer (some ⟨sc, 11, none⟩)), none] (ApQ w9 sc 11 (.slice p C.length c) C.length (rowC C) (st.cells bv) 110 111 6 7 10) 117 rfl (by kernel_rfl) [(0, 104), (1, 105), (2, 106), (3, 107), (4, 108), (5, 109), (6, 110), (7, 111), (8, 112), (9, 113)] (by kernel_rfl) (ApQ.start) ?_ ?_
    · intro q a1 W1 i hi hnq hd hG K hK
      have hlt : i < 11 := hi
      have hc : i = 0 ∨ i = 1 ∨ i = 2 ∨ i = 3 ∨ i = 4 ∨ i = 5 ∨ i = 6 ∨ i = 7 ∨ i = 8 ∨ i = 9 ∨ i = 10 := by omega
      have hΨ := hG.world
      rcases hc with rfl | rfl | rfl | rfl | rfl | rfl | rfl | rfl | rfl | rfl | rfl
      · have e2 := hG.old 2 (by kernel_rfl)
        refine op_doC rfl (wanted_none rfl) hK (fun K' hK' => ?_)
        unfold Oper.wp
        go_simp
        exact hK' _ _ (fun u hu => by cases hu; rfl) (hΨ.keep (by decide) (by decide) (by decide) (put_ne (by decide) _) (put_ne (by decide) _))
      · have e2 := hG.old 2 (by kernel_rfl)
        refine op_doC rfl (wanted_none rfl) hK (fun K' hK' => ?_)
        unfold Oper.wp
        go_simp
        exact hK' _ _ (fun u hu => by cases hu; rfl) (hΨ.keep (by decide) (by decide) (by decide) (put_ne (by decide) _) (put_ne (by decide) _))
      · have e105 := hG.val (v := .pointer (some ⟨sc, 0, none⟩)) 1 105 (hd _ rfl ⟨1, .data⟩ (by simp) rfl) rfl rfl
        refine op_doC rfl (wanted_none rfl) hK (fun K' hK' => ?_)
        unfold Oper.wp
        go_simp
        exact hK' _ _ (fun u hu => by cases hu; rfl) (hΨ.keep (by decide) (by decide) (by decide) (put_ne (by decide) _) (put_ne (by decide) _))
      · have e106 := hG.val (v := .pointer (some ⟨sc, 0, none⟩)) 2 106 (hd _ rfl ⟨2, .data⟩ (by simp) rfl) rfl rfl
        refine op_doC rfl (wanted_none rfl) hK (fun K' hK' => ?_)
        unfold Oper.wp
        go_simp
        exact hK' _ _ (fun u hu => by cases hu; rfl) (hΨ.keep (by decide) (by decide) (by decide) (put_ne (by decide) _) (put_ne (by decide) _))
      · have e107 := hG.val (v := .pointer (some ⟨sc, 11, none⟩)) 3 107 (hd _ rfl ⟨3, .data⟩ (by simp) rfl) rfl rfl
        have hf := (hΨ.a (fun h => hnq (hG.closed 7 h _ rfl ⟨4, .data⟩ (by simp) rfl))).1
        have c := (hf.blk H9.out.2.1 (by simp)).at 11 (scrC_last H9.out.2.2.1)
        refine op_doC rfl (wanted_none rfl) hK (fun K' hK' => ?_)
        unfold Oper.wp
        go_simp
        exact hK' _ _ (fun u hu => by cases hu; rfl) (hΨ.keep (by decide) (by decide) (by decide) (put_ne (by decide) _) (put_ne (by decide) _))
      · have e15 := hG.old 15 (by kernel_rfl)
        have hf := (hΨ.a (fun h => hnq (hG.closed 6 (hG.closed 7 h _ rfl ⟨6, .data⟩ (by simp) rfl) _ rfl ⟨5, .data⟩ (by simp) rfl))).1
        have q := (hf.blk H9.out.1 (by simp)).st
        refine op_doC rfl (wanted_none rfl) hK (fun K' hK' => ?_)
        unfold Oper.wp
        go_simp
        exact hK' _ _ (fun u hu => by cases hu; rfl) (hΨ.keep (by decide) (by decide) (by decide) (put_ne (by decide) _) (put_ne (by decide) _))
      · have e109 := hG.val (v := .agg #[.int .u8 st.kd, .int .i64 st.la, .int .i64 st.sl, .int .i64 st.pl, bv]) 5 109 (hd _ rfl ⟨5, .data⟩ (by simp) rfl) rfl rfl
        have hf := (hΨ.a (fun h => hnq (hG.closed 7 h _ rfl ⟨6, .data⟩ (by simp) rfl))).1
        refine op_doC rfl (wanted_none rfl) hK (fun K' hK' => ?_)
        unfold Oper.wp
        go_simp
        exact hK' _ _ (fun u hu => by cases hu) ⟨fun _ => ⟨hf.alloc _, fun _ => ⟨W1.heap.size, put_eq (by rw [hG.size]; exact Nat.lt_of_lt_of_eq (by decide : 110 < 117) rfl) _, Blk.new _ _ _⟩⟩, fun q => absurd (q.resolve_right (by decide)) (fun h => hnq (hG.closed 7 h _ rfl ⟨6, .data⟩ (by simp) rfl)), fun q => absurd ((q.resolve_right (by decide))) (fun h => hnq (hG.closed 7 (hG.closed 10 h _ rfl ⟨7, .data⟩ (by simp) rfl) _ rfl ⟨6, .data⟩ (by simp) rfl))⟩
      · have e108 := hG.val (v := .slice p C.length c) 4 108 (hd _ rfl ⟨4, .data⟩ (by simp) rfl) rfl rfl
        obtain ⟨hf, hb⟩ := hΨ.a hnq
        obtain ⟨bl, e110, hbl⟩ := hb (hd _ rfl ⟨6, .data⟩ (by simp) rfl)
        refine op_doC rfl (wanted_none rfl) hK (fun K' hK' => ?_)
        refine wp_app rfl _ _ 27 rfl 44 zeroStep 5 56 Tryd.underlying27 infoSt rfl (by decide) (.slice p C.length c) C.length (rowC C) (by simp [Act.eval, e108]) (own_fr H9.out.2.2.2.1 hf (by simp)) ⟨bl, 0, none⟩ 1 1 (st.cells bv) (by simp [Act.eval, e110]) rfl (fun j u hu => by rw [Addr.add_lit]; simpa using hbl.at j (v := u) (by simpa [St.cells] using hu)) (H9.out.2.2.2.2.1) (by have := H9.out.2.2.2.2.2; unfold maxLen; omega) (by have := H9.out.2.2.2.2.2; omega) ?_
        intro v2 W2 hap
        exact hK' _ _ (fun u hu => by cases hu) ⟨fun q => absurd (.inr rfl) q, fun _ _ => ⟨v2, W1, put_eq (by rw [hG.size]; exact Nat.lt_of_lt_of_eq (by decide : 111 < 117) rfl) _, hf, hap⟩, fun q => absurd (q.resolve_right (by decide)) (fun h => hnq (hG.closed 10 h _ rfl ⟨7, .data⟩ (by simp) rfl))⟩
      · have e104 := hG.val (v := .pointer (some ⟨sc, 0, none⟩)) 0 104 (hd _ rfl ⟨0, .data⟩ (by simp) rfl) rfl rfl
        refine op_doC rfl (wanted_none rfl) hK (fun K' hK' => ?_)
        unfold Oper.wp
        go_simp
        exact hK' _ _ (fun u hu => by cases hu; rfl) (hΨ.keep (by decide) (by decide) (by decide) (put_ne (by decide) _) (put_ne (by decide) _))
      · have e112 := hG.val (v := .pointer (some ⟨sc, 0, none⟩)) 8 112 (hd _ rfl ⟨8, .data⟩ (by simp) rfl) rfl rfl
        refine op_doC rfl (wanted_none rfl) hK (fun K' hK' => ?_)
        unfold Oper.wp
        go_simp
        exact hK' _ _ (fun u hu => by cases hu; rfl) (hΨ.keep (by decide) (by decide) (by decide) (put_ne (by decide) _) (put_ne (by decide) _))
      · have e113 := hG.val (v := .pointer (some ⟨sc, 11, none⟩)) 9 113 (hd _ rfl ⟨9, .data⟩ (by simp) rfl) rfl rfl
        obtain ⟨v2, W2, e111, hf, hap⟩ := hΨ.b (hd _ rfl ⟨7, .data⟩ (by simp) rfl) hnq
        obtain ⟨g2, c2', rfl⟩ := own_succ hap.own
        have hsc := hap.fr.blk (hf.blk H9.out.2.1 (by simp)) (by have := own_notin H9.out.2.2.2.1 H9.out.2.1 (by decide); exact this)
        have c := hsc.at 11 (scrC_last H9.out.2.2.1)
        have cfz := hsc.free 11
        refine op_doC rfl (wanted_none rfl) hK (fun K' hK' => ?_)
        unfold Oper.wp
        go_simp
        exact hK' undef _ (fun u hu => by cases hu) ⟨fun q => absurd (.inl (hd _ rfl ⟨7, .data⟩ (by simp) rfl)) q, fun _ q => absurd (.inr rfl) q, fun _ => ⟨_, W2, W1, hf, hap, rfl⟩⟩
    · intro vs q W1 hq hΨ hv
      have r0 : vs 0 = .pointer (some ⟨sc, 0, none⟩) := hv 0 104 _ (by decide) rfl rfl
      have r1 : vs 1 = .pointer (some ⟨sc, 0, none⟩) := hv 1 105 _ (by decide) rfl rfl
      have r2 : vs 2 = .pointer (some ⟨sc, 0, none⟩) := hv 2 106 _ (by decide) rfl rfl
      have r3 : vs 3 = .pointer (some ⟨sc, 11, none⟩) := hv 3 107 _ (by decide) rfl rfl
      have r4 : vs 4 = .slice p C.length c := hv 4 108 _ (by decide) rfl rfl
      have r5 : vs 5 = .agg #[.int .u8 st.kd, .int .i64 st.la, .int .i64 st.sl, .int .i64 st.pl, bv] := hv 5 109 _ (by decide) rfl rfl
      have r8 : vs 8 = .pointer (some ⟨sc, 0, none⟩) := hv 8 112 _ (by decide) rfl rfl
      have r9 : vs 9 = .pointer (some ⟨sc, 11, none⟩) := hv 9 113 _ (by decide) rfl rfl
      simp only [lay, List.foldl_cons, List.foldl_nil, r0, r1, r2, r3, r4, r5, r8, r9] at hΨ ⊢
      simp only [List.setIfInBounds_toArray, List.set_cons_zero, List.set_cons_succ] at hΨ ⊢
      clear hv r0 r1 r2 r3 r4 r5 r8 r9
      generalize vs 6 = x6 at *
      generalize vs 7 = x7 at *
      obtain ⟨v2, Wa, Wb, hf, hap, hW⟩ := hΨ.c (hq 10 (by decide))
      have HA := Lib.hid (And.intro hf (And.intro hap hW))
      clear hΨ hf hap hW hq
      go_wp2_with fail
      go_ret
      have h0 := HST.out
      have hsc := HA.out.2.1.fr.blk (HA.out.1.blk H9.out.2.1 (by simp)) (own_notin (own_fr H9.out.2.2.2.1 HA.out.1 (by simp)) (HA.out.1.blk H9.out.2.1 (by simp)) (by decide))
      have hl : Fr [sc] Wb W1 := by rw [HA.out.2.2]; exact (Fr.refl _ _).setCell _ _ (.inl (by simp))
      have hsc2 : Blk W1 sc (scrC cfg v2) 29 := by
        rw [HA.out.2.2]
        have := hsc.set 11 v2
        rwa [scrC_setL _ H9.out.2.2.1] at this
      have fA : Fr (Value.slice p C.length c).ownBlock.toList w9 Wb := (HA.out.1.mono (by simp)).trans HA.out.2.1.fr (fun x hx => .inl hx)
      refine ⟨_, rfl, rfl, ?_, v2, hsc2, bv, ?_, ?_, ?_⟩
      · exact ((h0.2.2.1.mono (by simp)).trans (fA.mono (T := r :: sc :: (Value.slice p C.length c).ownBlock.toList) (fun x hx => .inl (by simp [hx]))) (fun x hx => .inl hx)).trans (hl.mono (by simp)) (fun x hx => .inl hx)
      · have := own_fr HA.out.2.1.own hl (fun g hg => by have := own_ne HA.out.2.1.own hg hsc (by decide); simp; omega)
        rw [List.length_append, List.length_singleton]
        simpa [rowC] using this
      · intro g hg
        rcases Appended.start HA.out.2.1 HA.out.1 g hg with q | q
        · exact h0.1.blk g q
        · exact Nat.le_trans HC.out.2.2.2.2 (Nat.le_trans h0.2.2.1.size q)
      · intro x hx
        have hgo : ∀ {n1 : Nat} {y : Value} {l : List Int}, BytV w9 n1 y l → BytV W1 n1 y l := fun {n1 y l} hy =>
          (hy.fr' fA (fun g hg hm => by
            rcases h0.1.own.2 with ⟨q, _⟩ | ⟨g', cap, cur, q, _, hgg, _⟩
            · rw [q] at hm; simp [Value.ownBlock] at hm
            · rw [q] at hm
              simp [Value.ownBlock] at hm
              subst hm
              exact own_ne hy.1 hg (show Blk w9 g cur 44 from hgg) (by decide) rfl)).fr' hl (fun g hg => by
            have := (hy.fr' fA (fun g hg hm => by
              rcases h0.1.own.2 with ⟨q, _⟩ | ⟨g', cap, cur, q, _, hgg, _⟩
              · rw [q] at hm; simp [Value.ownBlock] at hm
              · rw [q] at hm
                simp [Value.ownBlock] at hm
                subst hm
                exact own_ne hy.1 hg (show Blk w9 g cur 44 from hgg) (by decide) rfl)).ne hsc (by decide) g hg
            simp; omega)
        simp only [List.mem_append, List.mem_singleton] at hx
        rcases hx with hx | rfl
        · exact hgo (h0.1.byt x hx)
        · exact (hgo h0.2.1).from HC.out.2.2.2.2
end Sc
end Go.Proofs.YtbpgpjibljgiiaaDoor
