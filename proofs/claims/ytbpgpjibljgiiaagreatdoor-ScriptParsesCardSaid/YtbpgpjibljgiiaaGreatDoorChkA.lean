/-
  Script: why a script may not be.
-/
import Derived.Test.YtbpgpjibljgiiaaGreatDoorCfgA
namespace Go.Proofs.YtbpgpjibljgiiaaGreatDoor
open Go.RowKit
set_option linter.unusedVariables false
set_option linter.unusedSimpArgs false
attribute [local go_sem] Oper.semAt_some
namespace Sc
/-- Why a script may not be; 0: it may. -/
def checkE (cfg : List Int) (L : List St) : Int := if cfgE cfg ≠ 0 then cfgE cfg else if 65536 < L.length then 4 else if L.all mayS then 0 else 284
theorem St.cells_len (s : St) (v : Value) : (s.cells v).length = 5 := rfl
theorem rowC_len : ∀ C : List (St × Value), (rowC C).length = C.length * 5
  | [] => rfl
  | x :: C => by
    have := rowC_len C
    simp only [rowC, List.flatMap_cons, List.length_append, List.length_cons] at this ⊢
    rw [this, St.cells_len]; omega
theorem rowC_at : ∀ {C : List (St × Value)} {k : Nat} {x : St × Value}, C[k]? = some x → ∀ j u, (x.1.cells x.2)[j]? = some u → (rowC C)[k * 5 + j]? = some u
  | [], k, x, h, j, u, hu => by cases h
  | y :: C, 0, x, h, j, u, hu => by
    simp at h
    subst h
    have hj : j < (y.1.cells y.2).length := (List.getElem?_eq_some_iff.1 hu).1
    simp only [rowC, List.flatMap_cons]
    rw [Nat.zero_mul, Nat.zero_add, List.getElem?_append_left hj]
    exact hu
  | y :: C, k + 1, x, h, j, u, hu => by
    have := rowC_at (C := C) (k := k) (x := x) (by simpa using h) j u hu
    simp only [rowC, List.flatMap_cons]
    rw [List.getElem?_append_right (by rw [St.cells_len]; omega), St.cells_len, show (k + 1) * 5 + j - 5 = k * 5 + j by omega]
    exact this
/-- A step of a list is loaded whole. -/
theorem StepsV.load {W : World} {n0 k : Nat} {v : Value} {C : List (St × Value)} (h : StepsV W n0 v C) {x : St × Value} (hx : C[k]? = some x) :
    ∃ g c, v = .slice (some ⟨g, 0, none⟩) C.length c ∧ (loadSt ⟨g, k * 5, none⟩).run Tryz.prog W = .ok (x.1.val x.2) W := by
  rcases h.own.2 with ⟨_, h0⟩ | ⟨g, cap, cur, rfl, _, hg, _⟩
  · have : k < C.length := (List.getElem?_eq_some_iff.1 hx).1
    omega
  · refine ⟨g, cap, rfl, ?_⟩
    refine run_loadVar_mid (P := Tryz.prog) W g (k * 5) 64 (x.1.cells x.2) _ (fun j u hu => ?_) Tryz.underlying64 rfl info44
    have := h.own.cells (g := g) rfl (k * 5 + j) u (rowC_at hx j u hu)
    rw [Addr.add_lit] at this
    simpa using this
theorem StepsV.fr {W W' : World} {n0 : Nat} {v : Value} {C : List (St × Value)} (h : StepsV W n0 v C) (f : Fr [] W W') : StepsV W' n0 v C :=
  ⟨own_fr h.own f (by simp), h.blk, fun x hx => (h.byt x hx).fr' f (by simp)⟩
set_option maxRecDepth 100000 in
set_option maxHeartbeats 8000000 in
theorem check_any (w : World) (n0 : Nat) (v0 v1 v2 v3 v4 v5 v6 v7 v8 v9 v10 : Int) (v : Value) (C : List (St × Value)) (hv : StepsV w n0 v C) (hk : ∀ x ∈ C, x.1.kd < 256) (hn : C.length ≤ 2513169434917) :
    Calls Tryz.prog 14 #[.agg #[.int .i64 v0, .int .i64 v1, .int .i64 v2, .int .i64 v3, .int .i64 v4, .int .i64 v5, .int .i64 v6, .int .i64 v7, .int .i64 v8, .int .i64 v9, .int .i64 v10, v]] w fun e w' => e = .returned (.int .i64 (checkE [v0, v1, v2, v3, v4, v5, v6, v7, v8, v9, v10] (C.map Prod.fst))) ∧ Fr [] w w' := by
  obtain ⟨E, hE⟩ : ∃ E, E = checkE [v0, v1, v2, v3, v4, v5, v6, v7, v8, v9, v10] (C.map Prod.fst) := ⟨_, rfl⟩
  rw [← hE]
  obtain ⟨E1, hE1⟩ : ∃ E1, E1 = cfgE [v0, v1, v2, v3, v4, v5, v6, v7, v8, v9, v10] := ⟨_, rfl⟩
  have HE := Lib.hid (show E = if E1 ≠ 0 then E1 else if 65536 < C.length then 4 else if (C.map Prod.fst).all mayS then 0 else 284 by rw [hE, hE1]; unfold checkE; rw [List.length_map])
  have HF := Lib.hid (fun W => show Calls Tryz.prog 37 #[.agg #[.int .i64 v0, .int .i64 v1, .int .i64 v2, .int .i64 v3, .int .i64 v4, .int .i64 v5, .int .i64 v6, .int .i64 v7, .int .i64 v8, .int .i64 v9, .int .i64 v10]] W fun e w' => e = .returned (.int .i64 E1) ∧ Fr [] W w' from by rw [hE1]; exact config_any W _ _ _ _ _ _ _ _ _ _ _)
  have HM := Lib.hid (fun W (s : St) (h : s.kd < 256) p c => show Calls Tryz.prog 38 #[.agg #[.int .u8 s.kd, .int .i64 s.la, .int .i64 s.sl, .int .i64 s.pl, .slice p s.by'.length c]] W fun e w' => e = .returned (.bool (mayS s)) ∧ Fr [] W w' from may_any W s h p c)
  obtain ⟨p, c, rfl⟩ := own_form hv.own
  have HV := Lib.hid (And.intro hv (And.intro hk hn))
  obtain ⟨w0, hw0⟩ : ∃ w0, w.alloc (.cells #[.int .i64 v0, .int .i64 v1, .int .i64 v2, .int .i64 v3, .int .i64 v4, .int .i64 v5, .int .i64 v6, .int .i64 v7, .int .i64 v8, .int .i64 v9, .int .i64 v10, .slice p C.length c] 26) = w0 := ⟨_, rfl⟩
  have H0 := Lib.hid (show Blk w0 w.heap.size #[.int .i64 v0, .int .i64 v1, .int .i64 v2, .int .i64 v3, .int .i64 v4, .int .i64 v5, .int .i64 v6, .int .i64 v7, .int .i64 v8, .int .i64 v9, .int .i64 v10, .slice p C.length c] 26 ∧ Fr [] w w0 by rw [← hw0]; exact ⟨Blk.new _ _ _, (Fr.refl _ _).alloc _⟩)
  have HW0 := Lib.hid hw0
  clear hE hE1 hv hk hw0 hn
  go_enter Tryz.func14, Tryz.ntmps14
  go_wp2_with fail
  (with_reducible refine (HF.out _).mono ?_)
  rintro e w1 ⟨rfl, f1⟩
  rw [HW0.out] at f1
  have hb1 := f1.blk H0.out.1 (by simp)
  have d11 := hb1.at 11 (v := .slice p C.length c) rfl
  have H1 := Lib.hid (show StepsV w1 n0 (.slice p C.length c) C ∧ Fr [] w w1 from ⟨(HV.out.1.fr H0.out.2).fr f1, H0.out.2.trans f1 (by simp)⟩)
  clear hb1 f1
  by_cases hz : E1 = 0
  · have z1 : (E1 != 0) = false := by rw [hz]; rfl
    have HE1 := Lib.hid (show E = if 65536 < C.length then 4 else if (C.map Prod.fst).all mayS then 0 else 284 by rw [HE.out, if_neg (by simpa using hz)])
    clear hz
    by_cases hl : 65536 < C.length
    · have l1 : (65536 : Int) < (C.length : Int) := by omega
      have HE2 := Lib.hid (show E = 4 by rw [HE1.out, if_pos hl])
      clear hl
      go_wp2
      go_ret
      exact ⟨by rw [HE2.out]; rfl, H1.out.2⟩
    · have l1 : (C.length : Int) ≤ 65536 := by omega
      have HE2 := Lib.hid (show E = if (C.map Prod.fst).all mayS then 0 else 284 by rw [HE1.out, if_neg hl])
      have HL := Lib.hid hl
      clear hl
      go_wp2_with fail
      go_loopw [19] (fun i wr => ∃ k : Nat, i = .int .i64 k ∧ k ≤ C.length ∧ E = (if ((C.map Prod.fst).drop k).all mayS then 0 else 284) ∧ Fr [] w1 wr) (fun i _ => C.length - (match i with | .int _ q => q.toNat | _ => 0))
      case atStart => exact ⟨0, rfl, by omega, HE2.out, Fr.refl _ _⟩
      case round =>
        obtain ⟨k, rfl, hk, ho, hf⟩ := hrel
        obtain ⟨wi, hwi⟩ : ∃ wi : World, wi = wr := ⟨_, rfl⟩
        rw [← hwi] at hf ⊢
        clear hwi
        have HI := Lib.hid (And.intro ho hf)
        clear ho hf
        by_cases hlt : k < C.length
        · obtain ⟨x, hx⟩ : ∃ x, C[k]? = some x := ⟨_, List.getElem?_eq_getElem hlt⟩
          obtain ⟨g, c', hs, hld⟩ := (H1.out.1.fr HI.out.2).load hx
          obtain ⟨rfl, rfl⟩ : p = some ⟨g, 0, none⟩ ∧ c = c' := by simpa using hs
          have hbx := H1.out.1.byt x (List.mem_of_getElem? hx)
          obtain ⟨st, bv⟩ := x
          obtain ⟨bp, bc, hbe⟩ := hbx.form
          obtain rfl : bv = .slice bp st.by'.length bc := hbe
          have k1 : (k : Int) < (C.length : Int) := by omega
          have k0 : (0 : Int) ≤ (k : Int) := by omega
          have HX := Lib.hid (And.intro hx (And.intro hlt (HV.out.2.1 _ (List.mem_of_getElem? hx))))
          clear hs hbx hx hk hlt
          replace hld : (loadSt ⟨g, k * 5, none⟩).run Tryz.prog wi = .ok (.agg #[.int .u8 st.kd, .int .i64 st.la, .int .i64 st.sl, .int .i64 st.pl, .slice bp st.by'.length bc]) wi := hld
          have q4 : can5 (wi.alloc (.cells #[.int .u8 0, .int .i64 0, .int .i64 0, .int .i64 0, .slice none 0 0] 64)) wi.heap.size = true := (Blk.new wi _ 64).can5
          have o1 : (Value.int .u8 st.kd).oneCell' = true := rfl
          have o2 : ∀ z : Int, (Value.int .i64 z).oneCell' = true := fun _ => rfl
          have o3 : (Value.slice bp st.by'.length bc).oneCell' = true := rfl
          obtain ⟨w2, hw2⟩ : ∃ w2, layS (wi.alloc (.cells #[.int .u8 0, .int .i64 0, .int .i64 0, .int .i64 0, .slice none 0 0] 64)) wi.heap.size (.int .u8 st.kd) (.int .i64 st.la) (.int .i64 st.sl) (.int .i64 st.pl) (.slice bp st.by'.length bc) = w2 := ⟨_, rfl⟩
          have hb2 : Blk w2 wi.heap.size #[.int .u8 st.kd, .int .i64 st.la, .int .i64 st.sl, .int .i64 st.pl, .slice bp st.by'.length bc] 64 := by rw [← hw2]; exact (Blk.new wi _ 64).lay _ _ _ _ _
          have H2 := Lib.hid (show Fr [] wi w2 by rw [← hw2]; exact ((Fr.refl [] wi).alloc _).lay _ _ _ _ _ _ (.inr (Nat.le_refl _)))
          have q5 := hb2.st
          have HW2 := Lib.hid hw2
          clear hw2 hb2
          go_upto_region 9 with fail
          rw [HW2.out]
          clear q4 o1 o2 o3 hld
          go_wp2_with fail
          (with_reducible refine (HM.out _ st HX.out.2.2 bp bc).mono ?_)
          rintro e w3 ⟨rfl, f3⟩
          have HF3 := Lib.hid (HI.out.2.trans (H2.out.trans f3 (by simp)) (by simp))
          have hd : (C.map Prod.fst).drop k = st :: (C.map Prod.fst).drop (k + 1) := by
            rw [List.drop_eq_getElem_cons (by rw [List.length_map]; exact HX.out.2.1)]
            have := List.getElem?_eq_some_iff.1 HX.out.1
            simp [this.2]
          cases hm : mayS st with
          | true =>
            have HE3 := Lib.hid (show E = (if ((C.map Prod.fst).drop (k + 1)).all mayS then 0 else 284) by rw [HI.out.1, hd, List.all_cons, hm, Bool.true_and])
            clear hm hd f3
            go_wp2
            exact ⟨⟨k + 1, rfl, by have := HX.out.2.1; omega, HE3.out, HF3.out⟩, by have := HX.out.2.1; show C.length - ((k : Int) + 1).toNat < C.length - ((k : Nat) : Int).toNat; omega⟩
          | false =>
            have HE3 := Lib.hid (show E = 284 by rw [HI.out.1, hd, List.all_cons, hm, Bool.false_and]; rfl)
            clear hm hd f3
            go_wp2
            go_ret
            exact ⟨by rw [HE3.out]; rfl, H1.out.2.trans HF3.out (by simp)⟩
        · obtain rfl : k = C.length := by omega
          have HE3 := Lib.hid (show E = 0 by rw [HI.out.1, List.drop_eq_nil_of_le (by rw [List.length_map]; exact Nat.le_refl _)]; rfl)
          clear hk hlt
          go_wp2
          go_ret
          exact ⟨by rw [HE3.out]; rfl, H1.out.2.trans HI.out.2 (by simp)⟩
  · have z1 : (E1 != 0) = true := by rw [bne_iff_ne]; exact hz
    have HE1 := Lib.hid (show E = E1 by rw [HE.out, if_pos hz])
    clear hz
    go_wp2
    go_ret
    exact ⟨by rw [HE1.out]; rfl, H1.out.2⟩
end Sc
end Go.Proofs.YtbpgpjibljgiiaaGreatDoor
