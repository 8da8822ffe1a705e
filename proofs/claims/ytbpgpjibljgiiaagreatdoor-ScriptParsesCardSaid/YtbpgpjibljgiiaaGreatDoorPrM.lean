/-
  Script, plain: a script's text reads back. No program stands here.
  ScriptPrints: what stands under new memory; a config's cells loaded as one step, compared.
  Script, plain: what is parsed prints as that text. No program stands here.
-/
import Derived.Test.YtbpgpjibljgiiaaGreatDoorPrW
import Derived.Test.YtbpgpjibljgiiaaGreatDoorLnQ
namespace Go.Proofs.YtbpgpjibljgiiaaGreatDoor
open Go.RowKit Lib
set_option linter.unusedVariables false
set_option linter.unusedSimpArgs false
namespace Sc
theorem goP_one {n : Nat} {l : List UInt8} {R : List (List UInt8)} {cfg : List Int} {L0 : List St} (hR : R ≠ []) (he : ¬ (2 < n ∧ fld (lineB l) 0 = endB)) (hf : lineF n (lineB l) = none) :
    goP n (l :: R) cfg L0 = goP (n + 1) R (nextCfg n (lineB l) cfg) (nextSt n (lineB l) L0) := by
  obtain ⟨m, r, rfl⟩ := List.exists_cons_of_ne_nil hR
  rw [goP, if_neg he, hf]
theorem read_parts {t : ByteArray} (h : readC t = 0) : stepF (fieldsB t) = none ∧ readL t = stepS (fieldsB t) ∧ t.size ≤ 4194304 := by
  have hsz : ¬ 4194304 < t.size := fun q => by unfold readC at h; rw [if_pos q] at h; cases h
  have hf : stepF (fieldsB t) = none := by
    cases hs : stepF (fieldsB t) with
    | none => rfl
    | some q =>
      unfold readC at h
      rw [if_neg hsz, hs] at h
      exact absurd h (stepF_code hs)
  exact ⟨hf, by unfold readL readF; rw [if_neg hsz, hf]; rfl, by omega⟩
theorem goP_steps (cfg : List Int) : ∀ (L : List St) (n : Nat) (L0 : List St), 2 < n → (∀ s ∈ L, lineE s = 0 ∧ StI s ∧ (10 : UInt8) ∉ (lineT s).data.toList ∧ fld (fieldsB (lineT s)) 0 ≠ endB) → goP n (pieces 10 (pLines L ++ pEnd)) cfg L0 = .ok (cfg, L0 ++ L)
  | [], n, L0, hn, _ => by
    have e : pieces 10 (pLines [] ++ pEnd) = [[101, 110, 100], []] := by decide
    rw [e, goP, if_pos ⟨hn, by decide +kernel⟩]
    rw [show overF (lineB [101, 110, 100]) 1 = none by decide +kernel]
    simp
  | s :: L, n, L0, hn, h => by
    obtain ⟨h1, h2, h3, h4⟩ := h s (by simp)
    have ih := goP_steps cfg L (n + 1) (L0 ++ [s]) (by omega) (fun x hx => h x (by simp [hx]))
    have e : pLines (s :: L) ++ pEnd = (lineT s).data.toList ++ 10 :: (pLines L ++ pEnd) := by simp [pLines]
    have hl : lineB (lineT s).data.toList = fieldsB (lineT s) := rfl
    obtain ⟨a, b⟩ := line_read h2 h1
    have hx : lineX s = lineT s := if_pos h1
    rw [hx] at a b
    obtain ⟨c1, c2, -⟩ := read_parts a
    rw [b] at c2
    rw [e, pieces_app _ h3, goP_one (pieces_ne _ _) (fun q => h4 (by rw [← hl]; exact q.2)) (by rw [hl]; unfold lineF; rw [if_neg (by omega), if_neg (by omega)]; exact c1)]
    rw [show nextCfg n (lineB (lineT s).data.toList) cfg = cfg from if_neg (by omega), show nextSt n (lineB (lineT s).data.toList) L0 = L0 ++ [s] from by unfold nextSt; rw [if_pos hn, hl, ← c2], ih, List.append_assoc]
    rfl
theorem dig_ten' : ∀ d : Fin 16, toU (digR (d.val : Int)) ≠ 10 := by decide +kernel
theorem hexN'_ten : ∀ (l : List Int), Byt l → (10 : UInt8) ∉ (hexN' l).map toU
  | [], _ => by simp [hexN']
  | z :: l, h => by
    have hz := h z (by simp)
    have ih := hexN'_ten l (fun y hy => h y (by simp [hy]))
    have h1 := dig_ten' ⟨(z / 16).toNat, by omega⟩
    have h2 := dig_ten' ⟨(z % 16).toNat, by omega⟩
    simp only [show (((z / 16).toNat : Nat) : Int) = z / 16 by omega, show (((z % 16).toNat : Nat) : Int) = z % 16 by omega] at h1 h2
    rw [hexN'_cons, List.map_cons, List.map_cons]
    simp only [List.mem_cons, not_or]
    exact ⟨fun e => h1 e.symm, fun e => h2 e.symm, ih⟩
theorem hexT_ten {l : List Int} (h : Byt l) : (10 : UInt8) ∉ (strOfNums (hexN l)).data.toList := by
  rw [strOfNums_toU]
  by_cases hl : l = []
  · subst hl; decide
  · rw [show hexN l = hexN' l from if_neg hl]; exact hexN'_ten l h
theorem numT_ten (n : Int) : (10 : UInt8) ∉ (numT n).data.toList := by
  show (10 : UInt8) ∉ itoa n
  unfold itoa
  split
  · simp only [List.mem_cons, not_or]
    exact ⟨by decide, fun h => by have := dd_digit _ _ h; simp at this⟩
  · exact fun h => by have := dd_digit _ _ h; simp at this
theorem wrd_ten (k : Nat) : (10 : UInt8) ∉ (wrdB k).1.data.toList := by
  unfold wrdB
  split <;> decide
theorem lineT_ten {s : St} (hm : mayS s = true) (h : Byt s.by') : (10 : UInt8) ∉ (lineT s).data.toList := by
  rw [lineT_list (may_kind hm)]
  have hw := wrd_ten s.kd
  have hx := hexT_ten h
  have ha := numT_ten s.la
  have hb := numT_ten s.sl
  have hc := numT_ten s.pl
  unfold tailL
  split <;> simp only [List.map_cons, List.map_nil, joinTail_cons, joinTail_nil, List.mem_append, List.mem_cons, List.not_mem_nil, not_or, or_false] <;> simp_all
theorem words_end (k : Nat) : ∀ x ∈ wordsL k, x ≠ endB := by
  unfold wordsL
  split <;> decide +kernel
theorem lineT_end {s : St} (hm : mayS s = true) (h : Byt s.by') : fld (fieldsB (lineT s)) 0 ≠ endB := by
  have hk := may_kind hm
  have hf : fieldsB (lineT s) = lineL s := fields_join (by unfold lineL; exact List.append_ne_nil_of_left_ne_nil (wordsL_ne hk) _) (lineL_blank h)
  rw [hf]
  unfold lineL
  obtain ⟨a, l, hw⟩ := List.exists_cons_of_ne_nil (wordsL_ne hk)
  have ha := words_end s.kd a (by rw [hw]; simp)
  rw [hw]
  exact ha
theorem cfg_fields (cfg : List Int) : lineB ([99, 111, 110, 102, 105, 103] ++ pNums cfg) = sizeB :: cfg.map numT := by
  have h1 : joinT (sizeB :: cfg.map numT) = ⟨([99, 111, 110, 102, 105, 103] ++ pNums cfg).toArray⟩ := by
    unfold joinT
    rw [List.map_cons, Lib.join_cons]
    congr 2
    show _ ++ _ = _
    congr 1
    unfold Lib.joinTail pNums
    rw [List.map_map, List.map_map, List.flatMap_def]
    rfl
  unfold lineB
  rw [← h1]
  refine fields_join (by simp) (fun x hx => ?_)
  rcases List.mem_cons.1 hx with rfl | hx
  · decide
  · obtain ⟨n, _, rfl⟩ := List.mem_map.1 hx
    exact numT_blank n
theorem nums_at {cfg : List Int} (hr : ∀ n ∈ cfg, -9223372036854775808 ≤ n ∧ n ≤ 9223372036854775807) {k : Nat} (hk : k < cfg.length) : numF (sizeB :: cfg.map numT) (k + 1) = none ∧ numN (sizeB :: cfg.map numT) (k + 1) = cfg[k] := by
  have h1 := hr cfg[k] (List.getElem_mem hk)
  have h2 := numF_of (F := sizeB :: cfg.map numT) (k := k + 1) (n := cfg[k]) (by simp; omega) (by unfold fld; simp [List.getD_eq_getElem?_getD, hk]) h1.1 h1.2
  exact ⟨h2.1, h2.2.1⟩
theorem nums_all {cfg : List Int} (hr : ∀ n ∈ cfg, -9223372036854775808 ≤ n ∧ n ≤ 9223372036854775807) : ∀ (m k : Nat), k + m = cfg.length → numsF (sizeB :: cfg.map numT) m (k + 1) = none
  | 0, k, h => by unfold numsF; exact over_of (by simp; omega)
  | m + 1, k, h => by
    unfold numsF
    rw [(nums_at hr (k := k) (by omega)).1]
    exact nums_all hr m (k + 1) (by omega)
theorem pNums_ten (cfg : List Int) : (10 : UInt8) ∉ [99, 111, 110, 102, 105, 103] ++ pNums cfg := by
  intro h
  rcases List.mem_append.1 h with h | h
  · exact absurd h (by decide)
  · obtain ⟨n, _, h2⟩ := List.mem_flatMap.1 h
    rcases List.mem_cons.1 h2 with h3 | h3
    · exact absurd h3 (by decide)
    · exact numT_ten n h3
theorem parse_print {cfg : List Int} {L : List St} (hl : cfg.length = 11) (hr : ∀ n ∈ cfg, -9223372036854775808 ≤ n ∧ n ≤ 9223372036854775807) (hs : ∀ s ∈ L, StI s) (h : printE cfg L = 0) : parseP (printX cfg L) = .ok (cfg, L) := by
  have hc : checkE cfg L = 0 := Classical.byContradiction fun q => by rw [(printE_check q).1] at h; exact q h
  have hq : (L.all fun s => decide (lineE s = 0)) = true ∧ (printB cfg L).length ≤ 4194304 := Classical.byContradiction fun q => by rw [(printE_four hc q).1] at h; cases h
  have hx : printX cfg L = ⟨(printB cfg L).toArray⟩ := if_pos h
  have hst := goP_steps cfg L 3 [] (by omega) (fun s hm => by
    have h1 := List.all_eq_true.1 hq.1 s hm
    have h1 : lineE s = 0 := by simpa using h1
    have hmay : mayS s = true := by
      cases hmm : mayS s with
      | true => rfl
      | false => rw [(lineE_bad hmm).1] at h1; cases h1
    exact ⟨h1, hs s hm, lineT_ten hmay (hs s hm).2.2.2.2, lineT_end hmay (hs s hm).2.2.2.2⟩)
  have e : printB cfg L = [112, 97, 100, 100, 111, 99, 107, 32, 49] ++ 10 :: (([99, 111, 110, 102, 105, 103] ++ pNums cfg) ++ 10 :: (pLines L ++ pEnd)) := by simp [printB, pHead, pName]
  have hcf := cfg_fields cfg
  have hg : goP 1 (pieces 10 (printB cfg L)) zeros [] = .ok (cfg, L) := by
    rw [e, pieces_app _ (by decide), goP_one (pieces_ne _ _) (by omega) (by decide +kernel), pieces_app _ (pNums_ten cfg), goP_one (pieces_ne _ _) (by omega) (by rw [hcf]; show (if (2 : Nat) = 1 then _ else if (2 : Nat) = 2 then cfgF (sizeB :: cfg.map numT) else _) = none; rw [if_neg (by decide), if_pos rfl]; unfold cfgF; rw [if_pos (show fld (sizeB :: cfg.map numT) 0 = sizeB from rfl)]; have := nums_all hr 11 0 (by omega); exact this), hcf]
    have h3 : nextCfg 2 (sizeB :: cfg.map numT) (nextCfg 1 (lineB [112, 97, 100, 100, 111, 99, 107, 32, 49]) zeros) = cfg := by
      show cfgN _ = cfg
      unfold cfgN
      refine List.ext_getElem (by simp [hl]) (fun k h1 h2 => ?_)
      simp only [List.getElem_map, List.getElem_range]
      exact (nums_at hr h2).2
    rw [show (1 + 1 + 1 : Nat) = 3 from rfl, show (1 + 1 : Nat) = 2 from rfl, h3]
    exact hst
  rw [hx]
  unfold parseP
  rw [if_neg (by show ¬ 4194304 < (printB cfg L).toArray.size; rw [List.size_toArray]; omega), show (⟨(printB cfg L).toArray⟩ : ByteArray).data.toList = printB cfg L from rfl, hg]
  exact fin_ok hc
end Sc
end Go.Proofs.YtbpgpjibljgiiaaGreatDoor
namespace Go.Proofs.YtbpgpjibljgiiaaGreatDoor
open Go.RowKit
set_option linter.unusedVariables false
set_option linter.unusedSimpArgs false
/-- A copied list of these steps. -/
def Stab.cop (L : List Sc.St) : Stab := ⟨fun u W => ∃ n0 C', Sc.CopV W n0 u C' ∧ C'.map Prod.fst = L, fun _ _ _ f ⟨n0, C', h1, h2⟩ => ⟨n0, C', h1.fr f, h2⟩⟩
/-- A script of it. -/
def Stab.scr (cfg : List Int) (L : List Sc.St) : Stab := ⟨fun x W => ∃ u n0 C', x = .agg (Sc.scrC cfg u) ∧ Sc.CopV W n0 u C' ∧ C'.map Prod.fst = L, fun _ _ _ f ⟨u, n0, C', h0, h1, h2⟩ => ⟨u, n0, C', h0, h1.fr f, h2⟩⟩
/-- A pointer to an empty script. -/
def Stab.box29 (n : Nat) : Stab := ⟨fun u W => ∃ g, u = .pointer (some ⟨g, 0, none⟩) ∧ n ≤ g ∧ Blk W g Sc.zeroScr 26, fun _ _ _ f ⟨g, h1, h2, h3⟩ => ⟨g, h1, h2, f.blk h3 (by simp)⟩⟩
def loadCf (a : Addr) : Sem Value := loadVar 23 a
theorem loadVar26 (a : Addr) : loadVar 23 a = loadCf a := rfl
theorem info26 : (Tryz.prog.info? 23).map (·.size) = some 11 := by kernel_rfl
namespace Sc
theorem CopV.frB {W W' : World} {n0 g : Nat} {v : Value} {C : List (St × Value)} {cs : Array Value} (h : CopV W n0 v C) (f : Fr [g] W W') (hb : Blk W g cs 26) : CopV W' n0 v C :=
  ⟨⟨own_fr h.st.own f (fun x hx hm => by simp at hm; subst hm; exact own_ne h.st.own hx hb (by decide) rfl), h.st.blk, fun x hx => (h.st.byt x hx).fr' f (fun y hy hm => by simp at hm; subst hm; exact (h.st.byt x hx).ne hb (by decide) _ hy rfl)⟩, fun x hx => (h.mk20 x hx).fr f (fun y hy hm => by simp at hm; subst hm; exact (h.st.byt x hx).ne hb (by decide) _ hy rfl)⟩
theorem StepsV.frB {W W' : World} {n0 g : Nat} {v : Value} {C : List (St × Value)} {cs : Array Value} (h : StepsV W n0 v C) (f : Fr [g] W W') (hb : Blk W g cs 26) : StepsV W' n0 v C :=
  ⟨own_fr h.own f (fun x hx hm => by simp at hm; subst hm; exact own_ne h.own hx hb (by decide) rfl), h.blk, fun x hx => (h.byt x hx).fr' f (fun y hy hm => by simp at hm; subst hm; exact (h.byt x hx).ne hb (by decide) _ hy rfl)⟩
theorem fst_all {C D : List (St × Value)} (h : C.map Prod.fst = D.map Prod.fst) {P : St → Prop} (hp : ∀ x ∈ D, P x.1) : ∀ x ∈ C, P x.1 := fun x hx => by
  have h1 : x.1 ∈ D.map Prod.fst := by rw [← h]; exact List.mem_map_of_mem hx
  obtain ⟨y, hy, e⟩ := List.mem_map.1 h1
  rw [← e]; exact hp y hy
theorem run_cfg (W : World) (g : Nat) (v0 v1 v2 v3 v4 v5 v6 v7 v8 v9 v10 : Int) (v : Value) (t : TypeId) (h : Blk W g #[.int .i64 v0, .int .i64 v1, .int .i64 v2, .int .i64 v3, .int .i64 v4, .int .i64 v5, .int .i64 v6, .int .i64 v7, .int .i64 v8, .int .i64 v9, .int .i64 v10, v] t) :
    (loadCf ⟨g, 0, none⟩).run Tryz.prog W = .ok (.agg #[.int .i64 v0, .int .i64 v1, .int .i64 v2, .int .i64 v3, .int .i64 v4, .int .i64 v5, .int .i64 v6, .int .i64 v7, .int .i64 v8, .int .i64 v9, .int .i64 v10]) W := by
  refine run_loadVar_mid (P := Tryz.prog) W g 0 23 [.int .i64 v0, .int .i64 v1, .int .i64 v2, .int .i64 v3, .int .i64 v4, .int .i64 v5, .int .i64 v6, .int .i64 v7, .int .i64 v8, .int .i64 v9, .int .i64 v10] _ (fun j u hu => ?_) Tryz.underlying23 rfl info26
  have hj : j < 11 := (List.getElem?_eq_some_iff.1 hu).1
  rw [show (0 + j) = j by omega]
  refine h.at j ?_
  rw [List.getElem?_toArray]
  rw [show [Value.int .i64 v0, .int .i64 v1, .int .i64 v2, .int .i64 v3, .int .i64 v4, .int .i64 v5, .int .i64 v6, .int .i64 v7, .int .i64 v8, .int .i64 v9, .int .i64 v10, v] = [Value.int .i64 v0, .int .i64 v1, .int .i64 v2, .int .i64 v3, .int .i64 v4, .int .i64 v5, .int .i64 v6, .int .i64 v7, .int .i64 v8, .int .i64 v9, .int .i64 v10] ++ [v] from rfl, List.getElem?_append_left (by simpa using hj)]
  exact hu
theorem eql_cfg (W : World) (v0 v1 v2 v3 v4 v5 v6 v7 v8 v9 v10 : Int) :
    (binOp .eql 23 (.agg #[.int .i64 v0, .int .i64 v1, .int .i64 v2, .int .i64 v3, .int .i64 v4, .int .i64 v5, .int .i64 v6, .int .i64 v7, .int .i64 v8, .int .i64 v9, .int .i64 v10]) (.agg #[.int .i64 v0, .int .i64 v1, .int .i64 v2, .int .i64 v3, .int .i64 v4, .int .i64 v5, .int .i64 v6, .int .i64 v7, .int .i64 v8, .int .i64 v9, .int .i64 v10])).run Tryz.prog W = .ok (.bool true) W := by
  go_simp
theorem ParQ.lit {n0 : Nat} {w w' : World} {v0 v1 v2 v3 v4 v5 v6 v7 v8 v9 v10 : Int} {L : List St} {e : Ending} (h : ParQ n0 w (.ok ([v0, v1, v2, v3, v4, v5, v6, v7, v8, v9, v10], L)) e w') :
    ∃ p c C, e = .returned (.tuple #[.agg #[.int .i64 v0, .int .i64 v1, .int .i64 v2, .int .i64 v3, .int .i64 v4, .int .i64 v5, .int .i64 v6, .int .i64 v7, .int .i64 v8, .int .i64 v9, .int .i64 v10, .slice p L.length c], .nilIface]) ∧ C.map Prod.fst = L ∧ StepsV w' n0 (.slice p L.length c) C ∧ Fr [] w w' := by
  obtain ⟨v, C, rfl, -, hm, hv, hf⟩ := h
  have hl : C.length = L.length := by rw [← hm]; simp
  obtain ⟨p, c, rfl⟩ := own_form hv.own
  rw [hl] at hv ⊢
  exact ⟨p, c, C, rfl, hm, hv, hf⟩
end Sc
end Go.Proofs.YtbpgpjibljgiiaaGreatDoor
namespace Go.Proofs.YtbpgpjibljgiiaaGreatDoor
open Go.RowKit Lib
set_option linter.unusedVariables false
set_option linter.unusedSimpArgs false
namespace Sc
theorem join_two (l m : List UInt8) (r : List (List UInt8)) : Lib.join (l :: m :: r) [10] = l ++ 10 :: Lib.join (m :: r) [10] := by
  rw [Lib.join_cons, Lib.joinTail, List.map_cons, List.flatten_cons, ← Lib.joinTail, Lib.join_cons m r]
  simp
theorem line_of {l : List UInt8} {L : List ByteArray} (h : lineB l = L) : l = (joinT L).data.toList := by
  have := join_fields ⟨l.toArray⟩
  rw [show fieldsB ⟨l.toArray⟩ = L from h] at this
  rw [this]
theorem goP_back : ∀ (P : List (List UInt8)) (n : Nat) (cfg : List Int) (L0 : List St) (cfg' : List Int) (L' : List St), 2 < n → (Lib.join P [10]).length ≤ 4194304 → goP n P cfg L0 = .ok (cfg', L') →
    cfg' = cfg ∧ ∃ L1, L' = L0 ++ L1 ∧ Lib.join P [10] = pLines L1 ++ pEnd ∧ ∀ s ∈ L1, lineE s = 0 ∧ StI s
  | [], n, cfg, L0, cfg', L', hn, hz, h => by rw [goP] at h; cases h
  | [l], n, cfg, L0, cfg', L', hn, hz, h => by rw [goP] at h; cases h
  | l :: m :: r, n, cfg, L0, cfg', L', hn, hz, h => by
    rw [join_two] at hz ⊢
    rw [List.length_append, List.length_cons] at hz
    rw [goP] at h
    by_cases he : 2 < n ∧ fld (lineB l) 0 = endB
    · rw [if_pos he] at h
      cases ho : overF (lineB l) 1 with
      | some q => rw [ho] at h; cases h
      | none =>
        rw [ho] at h
        have hl1 := over_none ho
        have hl0 := fieldsB_pos ⟨l.toArray⟩
        have hl2 : lineB l = [endB] := by
          have := list1 (F := lineB l) (by have h2 : 0 < (lineB l).length := hl0; omega)
          rw [this, he.2]
        have hl := line_of hl2
        by_cases hm : m :: r = [[]]
        · rw [if_pos hm] at h
          simp only [Except.ok.injEq, Prod.mk.injEq] at h
          obtain ⟨rfl, rfl⟩ := h
          refine ⟨rfl, [], by simp, ?_, by simp⟩
          rw [hm, hl]
          decide +kernel
        · rw [if_neg hm] at h; cases h
    · rw [if_neg he] at h
      cases hf : lineF n (lineB l) with
      | some q => rw [hf] at h; cases h
      | none =>
        rw [hf] at h
        have hst : stepF (fieldsB ⟨l.toArray⟩) = none := by
          unfold lineF at hf
          rw [if_neg (by omega), if_neg (by omega)] at hf
          exact hf
        have hsz : ¬ 4194304 < (⟨l.toArray⟩ : ByteArray).size := by
          show ¬ 4194304 < l.toArray.size
          rw [List.size_toArray]; omega
        have hrc : readC ⟨l.toArray⟩ = 0 := by unfold readC; rw [if_neg hsz, hst]; rfl
        have hrl : readL ⟨l.toArray⟩ = stepS (lineB l) := by unfold readL readF; rw [if_neg hsz, hst]; rfl
        obtain ⟨a, b, c⟩ := read_line hrc
        rw [hrl] at a b c
        have hlt : lineT (stepS (lineB l)) = ⟨l.toArray⟩ := by rw [← b]; unfold lineX; rw [if_pos a]
        have ih := goP_back (m :: r) (n + 1) (nextCfg n (lineB l) cfg) (nextSt n (lineB l) L0) cfg' L' (by omega) (by omega) h
        rw [show nextCfg n (lineB l) cfg = cfg from if_neg (by omega), show nextSt n (lineB l) L0 = L0 ++ [stepS (lineB l)] from if_pos hn] at ih
        obtain ⟨h1, L1, h2, h3, h4⟩ := ih
        refine ⟨h1, stepS (lineB l) :: L1, by rw [h2]; simp, ?_, fun s hs => ?_⟩
        · rw [h3]
          simp [pLines, hlt]
        · rcases List.mem_cons.1 hs with rfl | hs
          · exact ⟨a, c⟩
          · exact h4 s hs
theorem nums_back : ∀ (m k : Nat) {F : List ByteArray}, numsF F m k = none → F.length ≤ k + m ∧ ∀ j, j < m → k + j < F.length ∧ fld F (k + j) = numT (numN F (k + j)) ∧ -9223372036854775808 ≤ numN F (k + j) ∧ numN F (k + j) ≤ 9223372036854775807
  | 0, k, F, h => ⟨over_none h, fun j hj => by omega⟩
  | m + 1, k, F, h => by
    obtain ⟨h1, h2⟩ := thenF_none h
    obtain ⟨a, -, b, c, d⟩ := numF_fine h1
    obtain ⟨e, f⟩ := nums_back m (k + 1) h2
    refine ⟨by omega, fun j hj => ?_⟩
    rcases j with _ | j
    · exact ⟨a, b, c, d⟩
    · have := f j (by omega)
      rw [show k + 1 + j = k + (j + 1) by omega] at this
      exact this
theorem cfg_back {F : List ByteArray} (h : cfgF F = none) (h0 : 0 < F.length) : F = sizeB :: (cfgN F).map numT ∧ (cfgN F).length = 11 ∧ ∀ n ∈ cfgN F, -9223372036854775808 ≤ n ∧ n ≤ 9223372036854775807 := by
  unfold cfgF at h
  by_cases hs : fld F 0 = sizeB
  · rw [if_pos hs] at h
    obtain ⟨h1, h2⟩ := nums_back 11 1 h
    have h3 := (h2 10 (by omega)).1
    refine ⟨?_, by simp [cfgN], fun n hn => ?_⟩
    · refine List.ext_getElem (by simp [cfgN]; omega) (fun k k1 k2 => ?_)
      rcases k with _ | k
      · show F[0] = sizeB
        rw [← hs]
        unfold fld
        rw [List.getD_eq_getElem?_getD, List.getElem?_eq_getElem h0, Option.getD_some]
      · have hk : k < 11 := by omega
        have := (h2 k hk).2.1
        rw [List.getElem_cons_succ, List.getElem_map]
        rw [show 1 + k = k + 1 by omega] at this
        have e : (cfgN F)[k]'(by simp [cfgN]; omega) = numN F (k + 1) := by simp [cfgN]
        rw [e, ← this]
        unfold fld
        rw [List.getD_eq_getElem?_getD, List.getElem?_eq_getElem k1, Option.getD_some]
    · obtain ⟨k, hk, rfl⟩ := List.mem_map.1 hn
      have := (h2 k (List.mem_range.1 hk)).2.2
      rw [show 1 + k = k + 1 by omega] at this
      exact this
  · rw [if_neg hs] at h; cases h
theorem one_back {F : List ByteArray} (h : oneF F = none) (h0 : 0 < F.length) : F = [headB, oneB] := by
  unfold oneF at h
  by_cases h1 : fld F 0 = headB
  · rw [if_pos h1] at h
    by_cases h2 : 1 < F.length
    · rw [if_pos h2] at h
      by_cases h3 : fld F 1 = oneB
      · rw [if_pos h3] at h
        have := over_none h
        rw [list2 (F := F) (by omega), h1, h3]
      · rw [if_neg h3] at h; cases h
    · rw [if_neg h2] at h; cases h
  · rw [if_neg h1] at h; cases h
/-- **What is parsed prints as that text.** -/
theorem print_parse {t : ByteArray} {cfg : List Int} {L : List St} (h : parseP t = .ok (cfg, L)) :
    cfg.length = 11 ∧ (∀ n ∈ cfg, -9223372036854775808 ≤ n ∧ n ≤ 9223372036854775807) ∧ (∀ s ∈ L, StI s) ∧ printE cfg L = 0 ∧ printX cfg L = t ∧ checkE cfg L = 0 := by
  unfold parseP at h
  by_cases hz : 4194304 < t.size
  · rw [if_pos hz] at h; cases h
  rw [if_neg hz] at h
  have hsz : t.data.toList.length = t.size := size_list _
  have hj := join_pieces 10 t.data.toList
  cases hg : goP 1 (pieces 10 t.data.toList) zeros [] with
  | error f => rw [hg] at h; cases h
  | ok x =>
    rw [hg] at h
    obtain ⟨c1, L1⟩ := x
    have hc : checkE c1 L1 = 0 := Classical.byContradiction fun q => by rw [fin_bad q] at h; cases h
    rw [fin_ok hc] at h
    simp only [Except.ok.injEq, Prod.mk.injEq] at h
    obtain ⟨rfl, rfl⟩ := h
    match hP : pieces 10 t.data.toList, hg with
    | [], hg => rw [goP] at hg; cases hg
    | [a], hg => rw [goP] at hg; cases hg
    | [a, b], hg =>
      exfalso
      rw [goP, if_neg (by omega)] at hg
      split at hg
      · cases hg
      · rw [goP] at hg; cases hg
    | a :: b :: d :: r, hg =>
      rw [goP, if_neg (by omega)] at hg
      cases h1 : lineF 1 (lineB a) with
      | some q => rw [h1] at hg; cases hg
      | none =>
        rw [h1] at hg
        dsimp only at hg
        rw [goP, if_neg (by omega)] at hg
        cases h2 : lineF 2 (lineB b) with
        | some q => rw [show (1 + 1 : Nat) = 2 from rfl, h2] at hg; cases hg
        | none =>
          rw [show (1 + 1 : Nat) = 2 from rfl, h2] at hg
          dsimp only at hg
          rw [hP, join_two, join_two] at hj
          have hl3 : (Lib.join (d :: r) [10]).length ≤ 4194304 := by
            have := congrArg List.length hj
            simp only [List.length_append, List.length_cons] at this
            omega
          obtain ⟨e1, L2, e2, e3, e4⟩ := goP_back (d :: r) 3 _ _ _ _ (by omega) hl3 hg
          have hone := one_back (F := lineB a) h1 (fieldsB_pos _)
          have hcf := cfg_back (F := lineB b) h2 (fieldsB_pos _)
          have e1 : c1 = cfgN (lineB b) := e1
          have e2 : L1 = L2 := by simpa [nextSt] using e2
          subst e2
          rw [← e1] at hcf
          obtain ⟨g1, g2, g3⟩ := hcf
          have ha := line_of hone
          have hb := line_of g1
          have hb' : b = [99, 111, 110, 102, 105, 103] ++ pNums c1 := by
            rw [hb]
            unfold joinT
            rw [List.map_cons, Lib.join_cons]
            show _ ++ _ = _
            congr 1
            unfold Lib.joinTail pNums
            rw [List.map_map, List.map_map, List.flatMap_def]
            rfl
          have hpb : printB c1 L1 = t.data.toList := by
            rw [← hj, e3, hb', ha]
            have ep : (joinT [headB, oneB]).data.toList = [112, 97, 100, 100, 111, 99, 107, 32, 49] := by decide +kernel
            rw [ep]
            simp [printB, pHead, pName]
          obtain ⟨p1, p2⟩ := printE_good hc (fun s hs => (e4 s hs).1) (by rw [hpb, hsz]; omega)
          exact ⟨g2, g3, fun s hs => (e4 s hs).2, p1, by rw [p2, hpb], hc⟩
end Sc
end Go.Proofs.YtbpgpjibljgiiaaGreatDoor
