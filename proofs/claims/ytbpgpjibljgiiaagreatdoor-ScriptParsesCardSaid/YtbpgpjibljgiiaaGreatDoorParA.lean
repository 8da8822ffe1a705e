/-
  Script: parsing, plain; one line of any number as one contract; scripts loaded and stored whole.
-/
import Derived.Test.YtbpgpjibljgiiaaGreatDoorChkA
import Derived.Test.YtbpgpjibljgiiaaGreatDoorPlnA
namespace Go.Proofs.YtbpgpjibljgiiaaGreatDoor
open Go.RowKit
set_option linter.unusedVariables false
set_option linter.unusedSimpArgs false
attribute [local go_sem] Oper.semAt_some
/-! ### scripts as one value -/
def layA (W : World) (g : Nat) (cs : Array Value) : World := W.setCells g 0 cs.toList
def scr? (w : World) (g : Nat) : Option Value := ((List.range 12).mapM fun j => w.cell? ⟨g, j, none⟩).map fun l => .agg l.toArray
def can12 (w : World) (g : Nat) : Bool := (List.range 12).all fun j => (w.cell? ⟨g, 0 + j, none⟩).isSome && !(w.frozen? ⟨g, 0 + j, none⟩)
def loadScr (a : Addr) : Sem Value := loadVar 26 a
def loadScr' (a : Addr) : Sem Value := loadVar 26 a
def storeScr (a : Addr) (v : Value) : Sem Unit := storeVar 26 a v
def storeScr' (a : Addr) (v : Value) : Sem Unit := storeVar 26 a v
def scrOk (cs : Array Value) : Bool := cs.size == 12 && cs.all (·.oneCell')
theorem loadVar29 (a : Addr) : loadVar 26 a = loadScr a := rfl
theorem storeVar29 (a : Addr) (v : Value) : storeVar 26 a v = storeScr a v := rfl
theorem info29 : (Tryz.prog.info? 26).map (·.size) = some 12 := by kernel_rfl
theorem mapM_get {w : World} {g : Nat} : ∀ (js : List Nat) (l : List Value), js.mapM (fun j => w.cell? ⟨g, j, none⟩) = some l → l.length = js.length ∧ ∀ (i j : Nat), js[i]? = some j → w.cell? ⟨g, j, none⟩ = l[i]?
  | [], l, h => by
    simp at h
    subst h
    exact ⟨rfl, fun i j h => by simp at h⟩
  | k :: js, l, h => by
    rw [List.mapM_cons] at h
    cases h1 : w.cell? ⟨g, k, none⟩ with
    | none => simp [h1] at h
    | some x =>
      cases h2 : js.mapM (fun j => w.cell? ⟨g, j, none⟩) with
      | none => simp [h1, h2] at h
      | some r =>
        simp [h1, h2] at h
        subst h
        obtain ⟨h3, h4⟩ := mapM_get js r h2
        refine ⟨by simp [h3], fun i j hi => ?_⟩
        cases i with
        | zero => simp at hi; subst hi; simpa using h1
        | succ i => simpa using h4 i j (by simpa using hi)
set_option maxRecDepth 100000 in
theorem run_loadScr (w : World) (g : Nat) : (loadScr ⟨g, 0, none⟩).run Tryz.prog w = match scr? w g with | some v => .ok v w | none => (loadScr' ⟨g, 0, none⟩).run Tryz.prog w := by
  cases h : scr? w g with
  | none => rfl
  | some v =>
    unfold scr? at h
    cases h1 : (List.range 12).mapM (fun j => w.cell? ⟨g, j, none⟩) with
    | none => rw [h1] at h; cases h
    | some l =>
      rw [h1] at h
      obtain rfl := Option.some.inj h
      obtain ⟨hl, hg⟩ := mapM_get _ l h1
      refine run_loadVar_mid (P := Tryz.prog) w g 0 26 l _ (fun j v hv => ?_) Tryz.underlying26 rfl (by rw [hl]; exact info29)
      have hj : j < 12 := by
        have := (List.getElem?_eq_some_iff.1 hv).1
        rw [hl] at this
        simpa using this
      have := hg j j (by simp [hj])
      rw [Nat.zero_add, this]
      exact hv
set_option maxRecDepth 100000 in
theorem run_storeScr (w : World) (g : Nat) (cs : Array Value) : (storeScr ⟨g, 0, none⟩ (.agg cs)).run Tryz.prog w = bif can12 w g && scrOk cs then .ok () (layA w g cs) else (storeScr' ⟨g, 0, none⟩ (.agg cs)).run Tryz.prog w := by
  cases h : can12 w g && scrOk cs with
  | false => rfl
  | true =>
    rw [Bool.and_eq_true] at h
    obtain ⟨h1, h2⟩ := h
    unfold scrOk at h2
    rw [Bool.and_eq_true, beq_iff_eq] at h2
    have ht : w.there g 0 12 := fun j hj => by
      have := List.all_eq_true.1 h1 j (List.mem_range.2 hj)
      simpa using this
    rw [cond_true]
    exact run_storeVar_mid (P := Tryz.prog) w g 0 26 cs (by rw [h2.1]; exact ht) (by rw [h2.1]; exact info29) h2.2
theorem Blk.can12 {W : World} {g : Nat} {t : TypeId} {cs : Array Value} (h : Blk W g cs t) (hs : cs.size = 12) : can12 W g = true := by
  refine List.all_eq_true.2 fun j hj => ?_
  have hj := List.mem_range.1 hj
  rw [h.at (0 + j) (v := cs[0 + j]'(by omega)) (by simp [hs, hj]), h.free]
  rfl
theorem Blk.scr {W : World} {g : Nat} {t : TypeId} {cs : Array Value} (h : Blk W g cs t) (hs : cs.size = 12) : scr? W g = some (.agg cs) := by
  have hx : ∀ (js : List Nat), (∀ j ∈ js, j < 12) → js.mapM (fun j => W.cell? ⟨g, j, none⟩) = some (js.map fun j => cs.getD j undef) := by
    intro js
    induction js with
    | nil => intro _; rfl
    | cons j js ih =>
      intro hj
      have h1 : j < cs.size := by have := hj j (by simp); omega
      rw [List.mapM_cons, h.at j (v := cs.getD j undef) (by simp [Array.getD, h1]), ih (fun k hk => hj k (by simp [hk]))]
      rfl
  unfold scr?
  rw [hx _ (fun j hj => List.mem_range.1 hj)]
  simp only [Option.map_some, Option.some.injEq, Value.agg.injEq]
  refine Array.ext (by simp [hs]) fun i h1 h2 => ?_
  simp [Array.getD, h2]
theorem heap_layA (W : World) (g : Nat) : ∀ (vs : List Value) (o : Nat) {b : Nat}, b ≠ g → (W.setCells g o vs).heap[b]? = W.heap[b]? := fun vs o b hb => by
  induction vs generalizing W o with
  | nil => rfl
  | cons v vs ih =>
    rw [World.setCells, ih]
    exact Below.heap_setCell W ⟨g, o, none⟩ v b hb
theorem size_setCells (W : World) (g : Nat) (vs : List Value) (o : Nat) : (W.setCells g o vs).heap.size = W.heap.size := by
  induction vs generalizing W o with
  | nil => rfl
  | cons v vs ih => rw [World.setCells, ih]; simp
theorem Fr.setCells {S : List Nat} {a W : World} (h : Fr S a W) (g o : Nat) (vs : List Value) (hg : g ∈ S ∨ a.heap.size ≤ g) : Fr S a (W.setCells g o vs) := by
  induction vs generalizing W o with
  | nil => exact h
  | cons v vs ih => rw [World.setCells]; exact ih (h.setCell ⟨g, o, none⟩ v hg) (o + 1)
theorem Fr.layA {S : List Nat} {a W : World} (h : Fr S a W) (g : Nat) (cs : Array Value) (hg : g ∈ S ∨ a.heap.size ≤ g) : Fr S a (Go.Proofs.YtbpgpjibljgiiaaGreatDoor.layA W g cs) := h.setCells g 0 _ hg
theorem Blk.setCells {W : World} {g : Nat} {t : TypeId} : ∀ (vs : List Value) (o : Nat) {cs : List Value}, Blk W g cs.toArray t → o + vs.length ≤ cs.length → Blk (W.setCells g o vs) g (cs.take o ++ vs ++ cs.drop (o + vs.length)).toArray t := by
  intro vs
  induction vs generalizing W with
  | nil =>
    intro o cs h hl
    simpa [World.setCells] using h
  | cons v vs ih =>
    intro o cs h hl
    rw [World.setCells]
    have h1 : Blk (W.setCell ⟨g, o, none⟩ v) g (cs.set o v).toArray t := by
      have := h.set o v
      rwa [List.setIfInBounds_toArray] at this
    have h2 := ih (o + 1) h1 (by simp at hl ⊢; omega)
    have ho : o < cs.length := by simp at hl; omega
    have e : (cs.set o v).take (o + 1) ++ vs ++ (cs.set o v).drop (o + 1 + vs.length) = cs.take o ++ (v :: vs) ++ cs.drop (o + (v :: vs).length) := by
      have h3 : (cs.set o v).take (o + 1) = cs.take o ++ [v] := by
        rw [List.take_succ_eq_append_getElem (by simpa using ho), List.take_set_of_le (Nat.le_refl _)]
        simp
      rw [h3, List.drop_set_of_lt (by omega), List.length_cons, show o + (vs.length + 1) = o + 1 + vs.length by omega]
      simp
    rw [e] at h2
    exact h2
theorem Blk.layA {W : World} {g : Nat} {t : TypeId} {cs : Array Value} (h : Blk W g cs t) (hs : cs.size = 12) (ds : Array Value) (hd : ds.size = 12) : Blk (Go.Proofs.YtbpgpjibljgiiaaGreatDoor.layA W g ds) g ds t := by
  have := Blk.setCells (W := W) (g := g) (t := t) ds.toList 0 (cs := cs.toList) (by simpa using h) (by simp [hs, hd])
  unfold Go.Proofs.YtbpgpjibljgiiaaGreatDoor.layA
  simpa [hs, hd, List.drop_eq_nil_of_le] using this
theorem loadVar_scr (w : World) (g : Nat) (v : Value) (h : scr? w g = some v) : (loadVar 26 ⟨g, 0, none⟩).run Tryz.prog w = .ok v w := by
  rw [loadVar29, run_loadScr, h]
theorem results_scr {fn : Func} {p u : Tmp} (h : fn.results = #[.cell p 26, .tmp u]) (tmps : Array Value) (w : World) (g : Nat) (v x : Value) (hp : tmps.getD p undef = .pointer (some ⟨g, 0, none⟩)) (hu : tmps.getD u undef = x) (hv : scr? w g = some v) :
    (results fn tmps).run Tryz.prog w = .ok (.tuple #[v, x]) w := by
  rw [results_cell_tmp h, hp, hu]
  simp [asAddr, loadVar_scr w g v hv, Result.andThen]
namespace Sc
theorem scrC_size {cfg : List Int} {v : Value} (h : cfg.length = 11) : (scrC cfg v).size = 12 := by simp [scrC, ints, h]
theorem scrC_ok {cfg : List Int} {v : Value} (h : cfg.length = 11) (hv : v.oneCell' = true) : scrOk (scrC cfg v) = true := by
  unfold scrOk
  rw [Bool.and_eq_true]
  refine ⟨by rw [scrC_size h]; rfl, Array.all_eq_true'.2 fun x hx => ?_⟩
  unfold scrC at hx
  simp only [List.mem_toArray, List.mem_append, List.mem_singleton] at hx
  rcases hx with hx | rfl
  · exact ints_one _ x hx
  · exact hv
def zeros : List Int := [0, 0, 0, 0, 0, 0, 0, 0, 0, 0, 0]
def endB : ByteArray := ⟨#[101, 110, 100]⟩
/-! ### the plain law of parsing -/
def lineF (n : Nat) (F : List ByteArray) : Flt := if n = 1 then oneF F else if n = 2 then cfgF F else stepF F
def cfgN (F : List ByteArray) : List Int := (List.range 11).map (fun i => numN F (i + 1))
def nextCfg (n : Nat) (F : List ByteArray) (cfg : List Int) : List Int := if n = 2 then cfgN F else cfg
def nextSt (n : Nat) (F : List ByteArray) (L : List St) : List St := if 2 < n then L ++ [stepS F] else L
abbrev Flt3 := Nat × Nat × Int
def lineB (l : List UInt8) : List ByteArray := fieldsB ⟨l.toArray⟩
def goP : Nat → List (List UInt8) → List Int → List St → Except Flt3 (List Int × List St)
  | n, [], _, _ => .error (n, 0, 283)
  | n, [_], _, _ => .error (n, 0, 283)
  | n, l :: m :: r, cfg, L =>
    if 2 < n ∧ fld (lineB l) 0 = endB then
      match overF (lineB l) 1 with
      | some q => .error (n, q.1, q.2)
      | none => if m :: r = [[]] then .ok (cfg, L) else .error (n + 1, 0, 283)
    else match lineF n (lineB l) with
      | some q => .error (n, q.1, q.2)
      | none => goP (n + 1) (m :: r) (nextCfg n (lineB l) cfg) (nextSt n (lineB l) L)
/-- .. and the sizes. -/
def fin : Except Flt3 (List Int × List St) → Except Flt3 (List Int × List St)
  | .error f => .error f
  | .ok (cfg, L) => if checkE cfg L ≠ 0 then .error (0, 0, checkE cfg L) else .ok (cfg, L)
def parseP (t : ByteArray) : Except Flt3 (List Int × List St) := if 4194304 < t.size then .error (0, 0, 4) else fin (goP 1 (pieces 10 t.data.toList) zeros [])
theorem stepS_kd (F : List ByteArray) : (stepS F).kd < 256 := by
  unfold stepS
  split <;> try (simp; done)
  rename_i k h0 h1 h2 h3 h4 h5 h6
  rcases kindN_cases (fld F 0) with h | h | h | h | h | h | h | h | h <;> try (exact absurd h (by assumption))
  · simp only [wayD]; split <;> omega
  · simp only [wayD]; split <;> omega
/-- One line, of any number. -/
theorem line_any (w : World) (r gF sc n n0 : Nat) (F : List ByteArray) (cfg : List Int) (v : Value) (C : List (St × Value)) (h : RowAt w r gF F 0) (hF : 0 < F.length) (hFs : ∀ s ∈ F, s.size ≤ 4294967296) (hs : Blk w sc (scrC cfg v) 26) (hc : cfg.length = 11) (hv : StepsV w n0 v C) (hC : C.length ≤ 4294967296) (hn : 1 ≤ n) (hn0 : n0 ≤ w.heap.size) :
    Calls Tryz.prog 13 #[.pointer (some ⟨r, 0, none⟩), .int .i64 n, .pointer (some ⟨sc, 0, none⟩)] w fun e w' => ∃ fv, e = .returned fv ∧ FaultV w' w.heap.size fv (lineF n F) ∧ Fr (r :: sc :: v.ownBlock.toList) w w' ∧
      (lineF n F = none → ∃ v' C', (nextCfg n F cfg).length = 11 ∧ Blk w' sc (scrC (nextCfg n F cfg) v') 26 ∧ StepsV w' n0 v' C' ∧ C'.map Prod.fst = nextSt n F (C.map Prod.fst)) := by
  have hst : ∀ {S : List Nat} {w' : World}, Fr S w w' → (∀ x ∈ S, x = r ∨ x = sc) → StepsV w' n0 v C := fun {S w'} f hS =>
    ⟨own_fr hv.own f (fun g hg hm => by
      rcases hS g hm with rfl | rfl
      · exact own_ne hv.own hg h.hd (by decide) rfl
      · exact own_ne hv.own hg hs (by decide) rfl), hv.blk, fun x hx => (hv.byt x hx).fr' f (fun g hg hm => by
      rcases hS g hm with rfl | rfl
      · exact (hv.byt x hx).ne h.hd (by decide) g hg rfl
      · exact (hv.byt x hx).ne hs (by decide) g hg rfl)⟩
  by_cases h1 : n = 1
  · subst h1
    refine (line_one w r gF sc F h hF).mono ?_
    rintro e w' ⟨fv, he, hp, hf⟩
    refine ⟨fv, he, hp, hf.mono (by simp), fun _ => ⟨v, C, hc, hf.blk hs (by have := h.hd.ne hs (by decide); simp; omega), hst hf (by simp), by simp [nextSt]⟩⟩
  by_cases h2 : n = 2
  · subst h2
    refine (line_two w r gF sc F cfg v h hF hFs hs hc).mono ?_
    rintro e w' ⟨fv, he, hp, hf, cfg', hl, hb, hcc⟩
    refine ⟨fv, he, hp, hf.mono (fun x hx => .inl (by simp at hx ⊢; rcases hx with rfl | rfl <;> simp)), fun hz => ⟨v, C, by simp [nextCfg, cfgN], ?_, hst hf (by simp), by simp [nextSt]⟩⟩
    have := hcc hz
    rw [this] at hb
    exact hb
  · refine (line_step w r gF sc n n0 F cfg v C h hF hFs hs hc hv hC (by omega) hn0).mono ?_
    rintro e w' ⟨fv, he, hp, hf, hz⟩
    have e1 : lineF n F = stepF F := by unfold lineF; rw [if_neg h1, if_neg h2]
    have e2 : nextCfg n F cfg = cfg := by unfold nextCfg; rw [if_neg h2]
    have e3 : nextSt n F (C.map Prod.fst) = C.map Prod.fst ++ [stepS F] := by unfold nextSt; rw [if_pos (by omega)]
    rw [e1, e2, e3]
    refine ⟨fv, he, hp, hf, fun hq => ?_⟩
    obtain ⟨v', bv, q1, q2⟩ := hz hq
    exact ⟨v', _, hc, q1, q2, by simp⟩
end Sc
end Go.Proofs.YtbpgpjibljgiiaaGreatDoor
