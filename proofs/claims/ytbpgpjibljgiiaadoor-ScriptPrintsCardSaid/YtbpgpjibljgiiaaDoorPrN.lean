/-
  Script, plain: a script's text reads back. No program stands here.
  ScriptPrints: what stands under new memory; a config's cells loaded as one step, compared.
-/
import Derived.Test.YtbpgpjibljgiiaaDoorPrW
import Derived.Test.YtbpgpjibljgiiaaDoorLefQ
namespace Go.Proofs.YtbpgpjibljgiiaaDoor
open Go.RowKit Lib
set_option linter.unusedVariables false
set_option linter.unusedSimpArgs false
namespace Sc
theorem goP_one {n : Nat} {l : List UInt8} {R : List (List UInt8)} {cfg : List Int} {L0 : List St} (hR : R ≠ []) (he : ¬ (2 < n ∧ fld (lineB l) 0 = endB)) (hf : lineF n (lineB l) = none) :
    goP n (l :: R) cfg L0 = goP (n + 1) R (nextCfg n (lineB l) cfg) (nextSt n (lineB l) L0) := by
  obtain ⟨m, r, rfl⟩ := List.exists_cons_of_ne_nil hR
  rw [goP, if_neg he, hf]
theorem read_parts {t : ByteArray} (h : readC t = 0) : stepF (fieldsB t) = none ∧ readL t = stepS (fieldsB t) ∧ t.size ≤ 4194304 := by
  have hsz : ¬ 4194304 < t.size := fun q => by unfold readC at h; rw [if_pos q] at h; cases h
  have hf : stepF (fieldsB t) = none := by
    cases hs : stepF (fieldsB t) with
    | none => rfl
    | some q =>
      unfold readC at h
      rw [if_neg hsz, hs] at h
      exact absurd h (stepF_code hs)
  exact ⟨hf, by unfold readL readF; rw [if_neg hsz, hf]; rfl, by omega⟩
theorem goP_steps (cfg : List Int) : ∀ (L : List St) (n : Nat) (L0 : List St), 2 < n → (∀ s ∈ L, lineE s = 0 ∧ StI s ∧ (10 : UInt8) ∉ (lineT s).data.toList ∧ fld (fieldsB (lineT s)) 0 ≠ endB) → goP n (pieces 10 (pLines L ++ pEnd)) cfg L0 = .ok (cfg, L0 ++ L)
  | [], n, L0, hn, _ => by
    have e : pieces 10 (pLines [] ++ pEnd) = [[101, 110, 100], []] := by decide
    rw [e, goP, if_pos ⟨hn, by decide +kernel⟩]
    rw [show overF (lineB [101, 110, 100]) 1 = none by decide +kernel]
    simp
  | s :: L, n, L0, hn, h => by
    obtain ⟨h1, h2, h3, h4⟩ := h s (by simp)
    have ih := goP_steps cfg L (n + 1) (L0 ++ [s]) (by omega) (fun x hx => h x (by simp [hx]))
    have e : pLines (s :: L) ++ pEnd = (lineT s).data.toList ++ 10 :: (pLines L ++ pEnd) := by simp [pLines]
    have hl : lineB (lineT s).data.toList = fieldsB (lineT s) := rfl
    obtain ⟨a, b⟩ := line_read h2 h1
    have hx : lineX s = lineT s := if_pos h1
    rw [hx] at a b
    obtain ⟨c1, c2, -⟩ := read_parts a
    rw [b] at c2
    rw [e, pieces_app _ h3, goP_one (pieces_ne _ _) (fun q => h4 (by rw [← hl]; exact q.2)) (by rw [hl]; unfold lineF; rw [if_neg (by omega), if_neg (by omega)]; exact c1)]
    rw [show nextCfg n (lineB (lineT s).data.toList) cfg = cfg from if_neg (by omega), show nextSt n (lineB (lineT s).data.toList) L0 = L0 ++ [s] from by unfold nextSt; rw [if_pos hn, hl, ← c2], ih, List.append_assoc]
    rfl
theorem dig_ten' : ∀ d : Fin 16, toU (digR (d.val : Int)) ≠ 10 := by decide +kernel
theorem hexN'_ten : ∀ (l : List Int), Byt l → (10 : UInt8) ∉ (hexN' l).map toU
  | [], _ => by simp [hexN']
  | z :: l, h => by
    have hz := h z (by simp)
    have ih := hexN'_ten l (fun y hy => h y (by simp [hy]))
    have h1 := dig_ten' ⟨(z / 16).toNat, by omega⟩
    have h2 := dig_ten' ⟨(z % 16).toNat, by omega⟩
    simp only [show (((z / 16).toNat : Nat) : Int) = z / 16 by omega, show (((z % 16).toNat : Nat) : Int) = z % 16 by omega] at h1 h2
    rw [hexN'_cons, List.map_cons, List.map_cons]
    simp only [List.mem_cons, not_or]
    exact ⟨fun e => h1 e.symm, fun e => h2 e.symm, ih⟩
theorem hexT_ten {l : List Int} (h : Byt l) : (10 : UInt8) ∉ (strOfNums (hexN l)).data.toList := by
  rw [strOfNums_toU]
  by_cases hl : l = []
  · subst hl; decide
  · rw [show hexN l = hexN' l from if_neg hl]; exact hexN'_ten l h
theorem numT_ten (n : Int) : (10 : UInt8) ∉ (numT n).data.toList := by
  show (10 : UInt8) ∉ itoa n
  unfold itoa
  split
  · simp only [List.mem_cons, not_or]
    exact ⟨by decide, fun h => by have := dd_digit _ _ h; simp at this⟩
  · exact fun h => by have := dd_digit _ _ h; simp at this
theorem wrd_ten (k : Nat) : (10 : UInt8) ∉ (wrdB k).1.data.toList := by
  unfold wrdB
  split <;> decide
theorem lineT_ten {s : St} (hm : mayS s = true) (h : Byt s.by') : (10 : UInt8) ∉ (lineT s).data.toList := by
  rw [lineT_list (may_kind hm)]
  have hw := wrd_ten s.kd
  have hx := hexT_ten h
  have ha := numT_ten s.la
  have hb := numT_ten s.sl
  have hc := numT_ten s.pl
  unfold tailL
  split <;> simp only [List.map_cons, List.map_nil, joinTail_cons, joinTail_nil, List.mem_append, List.mem_cons, List.not_mem_nil, not_or, or_false] <;> simp_all
theorem words_end (k : Nat) : ∀ x ∈ wordsL k, x ≠ endB := by
  unfold wordsL
  split <;> decide +kernel
theorem lineT_end {s : St} (hm : mayS s = true) (h : Byt s.by') : fld (fieldsB (lineT s)) 0 ≠ endB := by
  have hk := may_kind hm
  have hf : fieldsB (lineT s) = lineL s := fields_join (by unfold lineL; exact List.append_ne_nil_of_left_ne_nil (wordsL_ne hk) _) (lineL_blank h)
  rw [hf]
  unfold lineL
  obtain ⟨a, l, hw⟩ := List.exists_cons_of_ne_nil (wordsL_ne hk)
  have ha := words_end s.kd a (by rw [hw]; simp)
  rw [hw]
  exact ha
theorem cfg_fields (cfg : List Int) : lineB ([99, 111, 110, 102, 105, 103] ++ pNums cfg) = sizeB :: cfg.map numT := by
  have h1 : joinT (sizeB :: cfg.map numT) = ⟨([99, 111, 110, 102, 105, 103] ++ pNums cfg).toArray⟩ := by
    unfold joinT
    rw [List.map_cons, Lib.join_cons]
    congr 2
    show _ ++ _ = _
    congr 1
    unfold Lib.joinTail pNums
    rw [List.map_map, List.map_map, List.flatMap_def]
    rfl
  unfold lineB
  rw [← h1]
  refine fields_join (by simp) (fun x hx => ?_)
  rcases List.mem_cons.1 hx with rfl | hx
  · decide
  · obtain ⟨n, _, rfl⟩ := List.mem_map.1 hx
    exact numT_blank n
theorem nums_at {cfg : List Int} (hr : ∀ n ∈ cfg, -9223372036854775808 ≤ n ∧ n ≤ 9223372036854775807) {k : Nat} (hk : k < cfg.length) : numF (sizeB :: cfg.map numT) (k + 1) = none ∧ numN (sizeB :: cfg.map numT) (k + 1) = cfg[k] := by
  have h1 := hr cfg[k] (List.getElem_mem hk)
  have h2 := numF_of (F := sizeB :: cfg.map numT) (k := k + 1) (n := cfg[k]) (by simp; omega) (by unfold fld; simp [List.getD_eq_getElem?_getD, hk]) h1.1 h1.2
  exact ⟨h2.1, h2.2.1⟩
theorem nums_all {cfg : List Int} (hr : ∀ n ∈ cfg, -9223372036854775808 ≤ n ∧ n ≤ 9223372036854775807) : ∀ (m k : Nat), k + m = cfg.length → numsF (sizeB :: cfg.map numT) m (k + 1) = none
  | 0, k, h => by unfold numsF; exact over_of (by simp; omega)
  | m + 1, k, h => by
    unfold numsF
    rw [(nums_at hr (k := k) (by omega)).1]
    exact nums_all hr m (k + 1) (by omega)
theorem pNums_ten (cfg : List Int) : (10 : UInt8) ∉ [99, 111, 110, 102, 105, 103] ++ pNums cfg := by
  intro h
  rcases List.mem_append.1 h with h | h
  · exact absurd h (by decide)
  · obtain ⟨n, _, h2⟩ := List.mem_flatMap.1 h
    rcases List.mem_cons.1 h2 with h3 | h3
    · exact absurd h3 (by decide)
    · exact numT_ten n h3
theorem parse_print {cfg : List Int} {L : List St} (hl : cfg.length = 11) (hr : ∀ n ∈ cfg, -9223372036854775808 ≤ n ∧ n ≤ 9223372036854775807) (hs : ∀ s ∈ L, StI s) (h : printE cfg L = 0) : parseP (printX cfg L) = .ok (cfg, L) := by
  have hc : checkE cfg L = 0 := Classical.byContradiction fun q => by rw [(printE_check q).1] at h; exact q h
  have hq : (L.all fun s => decide (lineE s = 0)) = true ∧ (printB cfg L).length ≤ 4194304 := Classical.byContradiction fun q => by rw [(printE_four hc q).1] at h; cases h
  have hx : printX cfg L = ⟨(printB cfg L).toArray⟩ := if_pos h
  have hst := goP_steps cfg L 3 [] (by omega) (fun s hm => by
    have h1 := List.all_eq_true.1 hq.1 s hm
    have h1 : lineE s = 0 := by simpa using h1
    have hmay : mayS s = true := by
      cases hmm : mayS s with
      | true => rfl
      | false => rw [(lineE_bad hmm).1] at h1; cases h1
    exact ⟨h1, hs s hm, lineT_ten hmay (hs s hm).2.2.2.2, lineT_end hmay (hs s hm).2.2.2.2⟩)
  have e : printB cfg L = [112, 97, 100, 100, 111, 99, 107, 32, 49] ++ 10 :: (([99, 111, 110, 102, 105, 103] ++ pNums cfg) ++ 10 :: (pLines L ++ pEnd)) := by simp [printB, pHead, pName]
  have hcf := cfg_fields cfg
  have hg : goP 1 (pieces 10 (printB cfg L)) zeros [] = .ok (cfg, L) := by
    rw [e, pieces_app _ (by decide), goP_one (pieces_ne _ _) (by omega) (by decide +kernel), pieces_app _ (pNums_ten cfg), goP_one (pieces_ne _ _) (by omega) (by rw [hcf]; show (if (2 : Nat) = 1 then _ else if (2 : Nat) = 2 then cfgF (sizeB :: cfg.map numT) else _) = none; rw [if_neg (by decide), if_pos rfl]; unfold cfgF; rw [if_pos (show fld (sizeB :: cfg.map numT) 0 = sizeB from rfl)]; have := nums_all hr 11 0 (by omega); exact this), hcf]
    have h3 : nextCfg 2 (sizeB :: cfg.map numT) (nextCfg 1 (lineB [112, 97, 100, 100, 111, 99, 107, 32, 49]) zeros) = cfg := by
      show cfgN _ = cfg
      unfold cfgN
      refine List.ext_getElem (by simp [hl]) (fun k h1 h2 => ?_)
      simp only [List.getElem_map, List.getElem_range]
      exact (nums_at hr h2).2
    rw [show (1 + 1 + 1 : Nat) = 3 from rfl, show (1 + 1 : Nat) = 2 from rfl, h3]
    exact hst
  rw [hx]
  unfold parseP
  rw [if_neg (by show ¬ 4194304 < (printB cfg L).toArray.size; rw [List.size_toArray]; omega), show (⟨(printB cfg L).toArray⟩ : ByteArray).data.toList = printB cfg L from rfl, hg]
  exact fin_ok hc
end Sc
end Go.Proofs.YtbpgpjibljgiiaaDoor
namespace Go.Proofs.YtbpgpjibljgiiaaDoor
open Go.RowKit
set_option linter.unusedVariables false
set_option linter.unusedSimpArgs false
/-- A copied list of these steps. -/
def Stab.cop (L : List Sc.St) : Stab := ⟨fun u W => ∃ n0 C', Sc.CopV W n0 u C' ∧ C'.map Prod.fst = L, fun _ _ _ f ⟨n0, C', h1, h2⟩ => ⟨n0, C', h1.fr f, h2⟩⟩
/-- A script of it. -/
def Stab.scr (cfg : List Int) (L : List Sc.St) : Stab := ⟨fun x W => ∃ u n0 C', x = .agg (Sc.scrC cfg u) ∧ Sc.CopV W n0 u C' ∧ C'.map Prod.fst = L, fun _ _ _ f ⟨u, n0, C', h0, h1, h2⟩ => ⟨u, n0, C', h0, h1.fr f, h2⟩⟩
/-- A pointer to an empty script. -/
def Stab.box29 (n : Nat) : Stab := ⟨fun u W => ∃ g, u = .pointer (some ⟨g, 0, none⟩) ∧ n ≤ g ∧ Blk W g Sc.zeroScr 29, fun _ _ _ f ⟨g, h1, h2, h3⟩ => ⟨g, h1, h2, f.blk h3 (by simp)⟩⟩
def loadCf (a : Addr) : Sem Value := loadVar 26 a
theorem loadVar26 (a : Addr) : loadVar 26 a = loadCf a := rfl
theorem info26 : (Tryd.prog.info? 26).map (·.size) = some 11 := by kernel_rfl
namespace Sc
theorem CopV.frB {W W' : World} {n0 g : Nat} {v : Value} {C : List (St × Value)} {cs : Array Value} (h : CopV W n0 v C) (f : Fr [g] W W') (hb : Blk W g cs 29) : CopV W' n0 v C :=
  ⟨⟨own_fr h.st.own f (fun x hx hm => by simp at hm; subst hm; exact own_ne h.st.own hx hb (by decide) rfl), h.st.blk, fun x hx => (h.st.byt x hx).fr' f (fun y hy hm => by simp at hm; subst hm; exact (h.st.byt x hx).ne hb (by decide) _ hy rfl)⟩, fun x hx => (h.mk20 x hx).fr f (fun y hy hm => by simp at hm; subst hm; exact (h.st.byt x hx).ne hb (by decide) _ hy rfl)⟩
theorem StepsV.frB {W W' : World} {n0 g : Nat} {v : Value} {C : List (St × Value)} {cs : Array Value} (h : StepsV W n0 v C) (f : Fr [g] W W') (hb : Blk W g cs 29) : StepsV W' n0 v C :=
  ⟨own_fr h.own f (fun x hx hm => by simp at hm; subst hm; exact own_ne h.own hx hb (by decide) rfl), h.blk, fun x hx => (h.byt x hx).fr' f (fun y hy hm => by simp at hm; subst hm; exact (h.byt x hx).ne hb (by decide) _ hy rfl)⟩
theorem fst_all {C D : List (St × Value)} (h : C.map Prod.fst = D.map Prod.fst) {P : St → Prop} (hp : ∀ x ∈ D, P x.1) : ∀ x ∈ C, P x.1 := fun x hx => by
  have h1 : x.1 ∈ D.map Prod.fst := by rw [← h]; exact List.mem_map_of_mem hx
  obtain ⟨y, hy, e⟩ := List.mem_map.1 h1
  rw [← e]; exact hp y hy
theorem run_cfg (W : World) (g : Nat) (v0 v1 v2 v3 v4 v5 v6 v7 v8 v9 v10 : Int) (v : Value) (t : TypeId) (h : Blk W g #[.int .i64 v0, .int .i64 v1, .int .i64 v2, .int .i64 v3, .int .i64 v4, .int .i64 v5, .int .i64 v6, .int .i64 v7, .int .i64 v8, .int .i64 v9, .int .i64 v10, v] t) :
    (loadCf ⟨g, 0, none⟩).run Tryd.prog W = .ok (.agg #[.int .i64 v0, .int .i64 v1, .int .i64 v2, .int .i64 v3, .int .i64 v4, .int .i64 v5, .int .i64 v6, .int .i64 v7, .int .i64 v8, .int .i64 v9, .int .i64 v10]) W := by
  refine run_loadVar_mid (P := Tryd.prog) W g 0 26 [.int .i64 v0, .int .i64 v1, .int .i64 v2, .int .i64 v3, .int .i64 v4, .int .i64 v5, .int .i64 v6, .int .i64 v7, .int .i64 v8, .int .i64 v9, .int .i64 v10] _ (fun j u hu => ?_) Tryd.underlying26 rfl info26
  have hj : j < 11 := (List.getElem?_eq_some_iff.1 hu).1
  rw [show (0 + j) = j by omega]
  refine h.at j ?_
  rw [List.getElem?_toArray]
  rw [show [Value.int .i64 v0, .int .i64 v1, .int .i64 v2, .int .i64 v3, .int .i64 v4, .int .i64 v5, .int .i64 v6, .int .i64 v7, .int .i64 v8, .int .i64 v9, .int .i64 v10, v] = [Value.int .i64 v0, .int .i64 v1, .int .i64 v2, .int .i64 v3, .int .i64 v4, .int .i64 v5, .int .i64 v6, .int .i64 v7, .int .i64 v8, .int .i64 v9, .int .i64 v10] ++ [v] from rfl, List.getElem?_append_left (by simpa using hj)]
  exact hu
theorem eql_cfg (W : World) (v0 v1 v2 v3 v4 v5 v6 v7 v8 v9 v10 : Int) :
    (binOp .eql 26 (.agg #[.int .i64 v0, .int .i64 v1, .int .i64 v2, .int .i64 v3, .int .i64 v4, .int .i64 v5, .int .i64 v6, .int .i64 v7, .int .i64 v8, .int .i64 v9, .int .i64 v10]) (.agg #[.int .i64 v0, .int .i64 v1, .int .i64 v2, .int .i64 v3, .int .i64 v4, .int .i64 v5, .int .i64 v6, .int .i64 v7, .int .i64 v8, .int .i64 v9, .int .i64 v10])).run Tryd.prog W = .ok (.bool true) W := by
  go_simp
theorem ParQ.lit {n0 : Nat} {w w' : World} {v0 v1 v2 v3 v4 v5 v6 v7 v8 v9 v10 : Int} {L : List St} {e : Ending} (h : ParQ n0 w (.ok ([v0, v1, v2, v3, v4, v5, v6, v7, v8, v9, v10], L)) e w') :
    ∃ p c C, e = .returned (.tuple #[.agg #[.int .i64 v0, .int .i64 v1, .int .i64 v2, .int .i64 v3, .int .i64 v4, .int .i64 v5, .int .i64 v6, .int .i64 v7, .int .i64 v8, .int .i64 v9, .int .i64 v10, .slice p L.length c], .nilIface]) ∧ C.map Prod.fst = L ∧ StepsV w' n0 (.slice p L.length c) C ∧ Fr [] w w' := by
  obtain ⟨v, C, rfl, -, hm, hv, hf⟩ := h
  have hl : C.length = L.length := by rw [← hm]; simp
  obtain ⟨p, c, rfl⟩ := own_form hv.own
  rw [hl] at hv ⊢
  exact ⟨p, c, C, rfl, hm, hv, hf⟩
end Sc
end Go.Proofs.YtbpgpjibljgiiaaDoor
