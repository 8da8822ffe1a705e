/-
  The document's Parse: faults by letters, the two boxes of its answers, a step put on.
  The document's Parse: what holds at the head of its loop, and behind a line.
  Script, plain: what parsing tells of sizes and codes. No program stands here.
-/
import Derived.Test.YtbpgpjibljgiiaaGreatDoorCfZ
import Derived.Test.YtbpgpjibljgiiaaGreatDoorPrM
import Derived.Test.YtbpgpjibljgiiaaGreatDoorRqM
import Derived.Test.YtbpgpjibljgiiaaGreatDoorReaB
namespace Go.Proofs.YtbpgpjibljgiiaaGreatDoor
open Go.RowKit
set_option linter.unusedVariables false
set_option linter.unusedSimpArgs false
def storeFt (a : Addr) (v : Value) : Sem Unit := storeVar 33 a v
def storeFt' (a : Addr) (v : Value) : Sem Unit := storeVar 33 a v
theorem storeVar33 (a : Addr) (v : Value) : storeVar 33 a v = storeFt a v := rfl
theorem info33 : (Tryz.prog.info? 33).map (·.size) = some 3 := by kernel_rfl
def can3 (w : World) (g : Nat) : Bool := (List.range 3).all fun j => (w.cell? ⟨g, 0 + j, none⟩).isSome && !(w.frozen? ⟨g, 0 + j, none⟩)
def ftOk (cs : Array Value) : Bool := cs.size == 3 && cs.all (·.oneCell')
set_option maxRecDepth 100000 in
theorem run_storeFt (w : World) (g : Nat) (cs : Array Value) : (storeFt ⟨g, 0, none⟩ (.agg cs)).run Tryz.prog w = bif can3 w g && ftOk cs then .ok () (layA w g cs) else (storeFt' ⟨g, 0, none⟩ (.agg cs)).run Tryz.prog w := by
  cases h : can3 w g && ftOk cs with
  | false => rfl
  | true =>
    rw [Bool.and_eq_true] at h
    unfold ftOk at h
    rw [Bool.and_eq_true] at h
    have ht : w.there g 0 3 := fun j hj => by
      have := List.all_eq_true.1 h.1 j (List.mem_range.2 hj)
      simpa using this
    have hs : cs.size = 3 := by simpa using h.2.1
    rw [cond_true]
    exact run_storeVar_mid (P := Tryz.prog) w g 0 33 cs (by rw [hs]; exact ht) (by rw [hs]; exact info33) h.2.2
theorem Blk.can3 {W : World} {g : Nat} {t : TypeId} {cs : Array Value} (h : Blk W g cs t) (hs : cs.size = 3) : can3 W g = true := by
  refine List.all_eq_true.2 fun j hj => ?_
  have hj := List.mem_range.1 hj
  rw [h.at (0 + j) (v := cs[0 + j]'(by omega)) (by simp), h.free]
  rfl
theorem Blk.lay3 {W : World} {g : Nat} {t : TypeId} {cs : Array Value} (h : Blk W g cs t) (hs : cs.size = 3) (ds : Array Value) (hd : ds.size = 3) : Blk (Go.Proofs.YtbpgpjibljgiiaaGreatDoor.layA W g ds) g ds t := by
  have := Blk.setCells (W := W) (g := g) (t := t) ds.toList 0 (cs := cs.toList) (by simpa using h) (by simp [hs, hd])
  unfold Go.Proofs.YtbpgpjibljgiiaaGreatDoor.layA
  simpa [hs, hd, List.drop_eq_nil_of_le] using this
theorem Blk.lay_other {W : World} {g b : Nat} {t : TypeId} {cs ds : Array Value} (h : Blk W b cs t) (hn : b ≠ g) : Blk (Go.Proofs.YtbpgpjibljgiiaaGreatDoor.layA W g ds) b cs t := by
  unfold Blk Go.Proofs.YtbpgpjibljgiiaaGreatDoor.layA
  rw [heap_layA _ _ _ _ hn]
  exact h
theorem results_two {fn : Func} {p q : Tmp} (h : fn.results = #[.cell p 26, .cell q 33]) (tmps : Array Value) (w : World) (g f : Nat) (v : Value) (a b c : Value) (hp : tmps.getD p undef = .pointer (some ⟨g, 0, none⟩)) (hq : tmps.getD q undef = .pointer (some ⟨f, 0, none⟩)) (hv : scr? w g = some v) {t : TypeId} (hb : Blk w f #[a, b, c] t) :
    (results fn tmps).run Tryz.prog w = .ok (.tuple #[v, .agg #[a, b, c]]) w := by
  have hl : (loadVar 33 ⟨f, 0, none⟩).run Tryz.prog w = .ok (.agg #[a, b, c]) w := by
    refine run_loadVar_mid (P := Tryz.prog) w f 0 33 [a, b, c] _ (fun j v hv => ?_) Tryz.underlying33 rfl info33
    exact (by simpa using hb.at j (v := v) (by simpa using hv))
  have hp' : tmps[p]?.getD undef = .pointer (some ⟨g, 0, none⟩) := by simpa using hp
  have hq' : tmps[q]?.getD undef = .pointer (some ⟨f, 0, none⟩) := by simpa using hq
  simp [results, h, hp', hq', asAddr, loadVar_scr w g v hv, hl, Result.andThen]
namespace Sc
theorem wrong_one (F : List ByteArray) : wrongG F 1 [49] = (if 1 < F.length then (if fld F 1 = oneB then overF F 2 else some (1, 281)) else some (1, 282)) := by
  rw [wrongG]
  by_cases h : 1 < F.length
  · rw [if_pos h, if_pos h]
    by_cases h2 : fld F 1 = oneB
    · rw [if_pos h2]
      have : rightB (fld F 1) 49 = true := by unfold rightB; rw [if_neg (by decide), if_neg (by decide), h2]; exact decide_eq_true rfl
      rw [if_pos this]
      rfl
    · rw [if_neg h2]
      have : ¬ rightB (fld F 1) 49 = true := by
        unfold rightB
        rw [if_neg (by decide), if_neg (by decide)]
        simp [h2]
      rw [if_neg this]
  · rw [if_neg h, if_neg h]
theorem oneF_is (F : List ByteArray) : oneF F = if fld F 0 = headB then wrongG F 1 [49] else some (0, 280) := by
  rw [wrong_one]
  rfl
theorem wrong_nums (F : List ByteArray) : ∀ (m k : Nat), wrongG F k (List.replicate m 78) = numsF F m k
  | 0, k => rfl
  | m + 1, k => by
    rw [List.replicate_succ, wrongG, numsF, ← wrong_nums F m (k + 1)]
    unfold numF
    by_cases h : k < F.length
    · rw [if_pos h, if_pos h, show rightB (fld F k) 78 = (scan (fld F k).data.toList).isSome from rfl]
      cases scan (fld F k).data.toList <;> rfl
    · rw [if_neg h, if_neg h]; rfl
theorem cfgF_is (F : List ByteArray) : cfgF F = if fld F 0 = sizeB then wrongG F 1 [78, 78, 78, 78, 78, 78, 78, 78, 78, 78, 78] else some (0, 280) := by
  rw [show ([78, 78, 78, 78, 78, 78, 78, 78, 78, 78, 78] : List UInt8) = List.replicate 11 78 from rfl, wrong_nums]
  rfl
theorem nums_none {F : List ByteArray} (h : cfgF F = none) : ∀ j, j < 11 → numF F (j + 1) = none := by
  have h1 : numsF F 11 1 = none := by
    unfold cfgF at h
    split at h
    · exact h
    · cases h
  have : ∀ (m k : Nat), numsF F m k = none → ∀ j, j < m → numF F (k + j) = none := by
    intro m
    induction m with
    | zero => intro k _ j hj; omega
    | succ m ih =>
      intro k hk j hj
      obtain ⟨a, b⟩ := thenF_none hk
      rcases j with _ | j
      · exact a
      · have := ih (k + 1) b j (by omega)
        rw [show k + 1 + j = k + (j + 1) by omega] at this
        exact this
  intro j hj
  have := this 11 1 h1 j hj
  rw [Nat.add_comm] at this
  exact this
theorem flt_none {f : Flt} : fltC f = 0 → (∀ q, f = some q → q.2 ≠ 0) → f = none := by
  intro h1 h2
  cases f with
  | none => rfl
  | some q => exact absurd h1 (h2 q rfl)
/-- A step put on. -/
theorem StepsV.push {W W' : World} {n0 : Nat} {v v' bv : Value} {C : List (St × Value)} {s : St} (h : StepsV W n0 v C) (hb : BytV W n0 bv s.by') (hn : n0 ≤ W.heap.size) (happ : Appended W 64 5 v (C.length + 1) (rowC C ++ s.cells bv) v' W') : StepsV W' n0 v' (C ++ [(s, bv)]) := by
  have hne : ∀ {y : Value} {l : List Int}, BytV W n0 y l → ∀ g, y.ownBlock = some g → g ∉ v.ownBlock.toList := fun {y l} hy g hg hm => by
    have hm : v.ownBlock = some g := by simpa using hm
    rcases h.own.2 with ⟨h1, _⟩ | ⟨g', cap, cur, h1, _, h2, _⟩
    · rw [h1] at hm; simp [Value.ownBlock] at hm
    · rw [h1] at hm
      simp [Value.ownBlock] at hm
      subst hm
      exact hy.ne (show Blk W g' cur 64 from h2) (by decide) _ hg rfl
  refine ⟨?_, fun g hg => ?_, fun x hx => ?_⟩
  · have := happ.own
    rw [List.length_append, List.length_singleton]
    have e : rowC (C ++ [(s, bv)]) = rowC C ++ s.cells bv := by simp [rowC]
    rw [e]
    exact this
  · rcases happ.place with q | q
    · exact h.blk g (by rw [← q]; exact hg)
    · rw [q] at hg; cases hg; exact hn
  · rcases List.mem_append.1 hx with hx | hx
    · exact (h.byt x hx).fr' happ.fr (hne (h.byt x hx))
    · have : x = (s, bv) := by simpa using hx
      subst this
      exact hb.fr' happ.fr (hne hb)
/-- What the document's Parse answers. -/
def RParQ (n0 : Nat) (w : World) (R : Except Flt3 (List Int × List St)) (e : Ending) (w' : World) : Prop :=
  match R with
  | .error f => e = .returned (.tuple #[.agg zeroScr, .agg #[.int .i64 f.1, .int .i64 f.2.1, .int .i64 f.2.2]]) ∧ Fr [] w w'
  | .ok (cfg, L) => ∃ v C, e = .returned (.tuple #[.agg (scrC cfg v), .agg #[.int .i64 0, .int .i64 0, .int .i64 0]]) ∧ cfg.length = 11 ∧ C.map Prod.fst = L ∧ StepsV w' n0 v C ∧ Fr [] w w'
/-- The two boxes of a fault. -/
theorem bad_boxes {w W : World} {rb fb : Nat} {a b c : Value} (h1 : Blk W rb zeroScr 26) (h2 : Blk W fb #[.int .i64 0, .int .i64 0, .int .i64 0] 33) (hf : Fr [] w W) (n1 : w.heap.size ≤ rb) (n2 : w.heap.size ≤ fb) :
    can3 (layA W rb zeroScr) fb = true ∧ Blk (layA (layA W rb zeroScr) fb #[a, b, c]) rb zeroScr 26 ∧ Blk (layA (layA W rb zeroScr) fb #[a, b, c]) fb #[a, b, c] 33 ∧ Fr [] w (layA (layA W rb zeroScr) fb #[a, b, c]) := by
  have hne := h1.ne h2 (by decide)
  have k1 := h1.layA rfl zeroScr rfl
  have k2 : Blk (layA W rb zeroScr) fb _ 33 := h2.lay_other (ds := zeroScr) (Ne.symm hne)
  exact ⟨k2.can3 rfl, k1.lay_other hne, k2.lay3 rfl _ rfl, (hf.layA _ _ (.inr n1)).layA _ _ (.inr n2)⟩
end Sc
end Go.Proofs.YtbpgpjibljgiiaaGreatDoor
namespace Go.Proofs.YtbpgpjibljgiiaaGreatDoor
open Go.RowKit
set_option linter.unusedVariables false
set_option linter.unusedSimpArgs false
namespace Sc
abbrev PRes := Except Flt3 (List Int × List St)
/-- What is left of a text leads to. -/
def Leads (GR : PRes) (T : List UInt8) (n k : Nat) (en : Bool) (cfg : List Int) (L : List St) : Prop :=
  (en = false → GR = goP k (pieces 10 (T.drop n)) cfg L) ∧ (en = true → GR = if T.drop n = [] then .ok (cfg, L) else .error (k, 0, 283))
structure RpS (W : World) (n0 sb : Nat) (GR : PRes) (T : List UInt8) (n k : Nat) (en : Bool) (cfg : List Int) (v : Value) (C : List (St × Value)) : Prop where
  len : cfg.length = 11
  sb : Blk W sb (scrC cfg v) 26
  st : StepsV W n0 v C
  si : ∀ x ∈ C, StI x.1
  ct : C.length ≤ k
  go : Leads GR T n k en cfg (C.map Prod.fst)
structure RpI (w : World) (n0 rb fb sb : Nat) (GR : PRes) (T : List UInt8) (n k : Nat) (en : Bool) (W : World) : Prop where
  nk : 1 ≤ k ∧ k ≤ n + 1 ∧ n ≤ T.length
  rb : Blk W rb zeroScr 26
  fb : Blk W fb #[.int .i64 0, .int .i64 0, .int .i64 0] 33
  st : ∃ cfg v C, RpS W n0 sb GR T n k en cfg v C
  fr : Fr [] w W
/-- Behind line k, which ends at n - 1. -/
structure RpM (w : World) (n0 rb fb sb : Nat) (GR : PRes) (T : List UInt8) (n k : Nat) (fl : Flt) (en : Bool) (W : World) : Prop where
  rb : Blk W rb zeroScr 26
  fb : Blk W fb #[.int .i64 0, .int .i64 0, .int .i64 0] 33
  bad : ∀ q, fl = some q → GR = .error (k, q.1, q.2) ∧ q.2 ≠ 0
  st : fl = none → ∃ cfg v C, RpS W n0 sb GR T n (k + 1) en cfg v C
  fr : Fr [] w W
section
variable {w W W' : World} {n0 rb fb sb n k : Nat} {GR : PRes} {T : List UInt8} {en : Bool} {cfg : List Int} {v : Value} {C : List (St × Value)} {fl : Flt}
theorem RpS.grow (h : RpS W n0 sb GR T n k en cfg v C) (f : Fr [] W W') : RpS W' n0 sb GR T n k en cfg v C := ⟨h.len, f.blk h.sb (by simp), h.st.fr f, h.si, h.ct, h.go⟩
theorem RpI.grow (h : RpI w n0 rb fb sb GR T n k en W) (f : Fr [] W W') : RpI w n0 rb fb sb GR T n k en W' := by
  obtain ⟨cfg, v, C, hs⟩ := h.st
  exact ⟨h.nk, f.blk h.rb (by simp), f.blk h.fb (by simp), ⟨cfg, v, C, hs.grow f⟩, h.fr.trans f (by simp)⟩
theorem goP_bad {l : List UInt8} {R : List (List UInt8)} {L0 : List St} {q : Nat × Int} (hR : R ≠ []) (he : ¬ (2 < k ∧ fld (lineB l) 0 = endB)) (hf : lineF k (lineB l) = some q) : goP k (l :: R) cfg L0 = .error (k, q.1, q.2) := by
  obtain ⟨m, r, rfl⟩ := List.exists_cons_of_ne_nil hR
  rw [goP, if_neg he, hf]
theorem goP_end {l b : List UInt8} {L0 : List St} (he : 2 < k ∧ fld (lineB l) 0 = endB) : goP k (l :: pieces 10 b) cfg L0 = (match overF (lineB l) 1 with | some q => .error (k, q.1, q.2) | none => if b = [] then .ok (cfg, L0) else .error (k + 1, 0, 283)) := by
  obtain ⟨m, r, hb⟩ := List.exists_cons_of_ne_nil (pieces_ne 10 b)
  rw [hb, goP, if_pos he, ← hb]
  cases overF (lineB l) 1 with
  | some q => rfl
  | none =>
    by_cases h : b = []
    · rw [if_pos h, if_pos (pieces_nil.2 h)]
    · rw [if_neg h, if_neg (fun q => h (pieces_nil.1 q))]
theorem lineF_code {F : List ByteArray} {q : Nat × Int} (h : lineF k F = some q) : q.2 ≠ 0 := by
  unfold lineF at h
  split at h
  · rw [oneF_is] at h
    split at h
    · have := wrong_code h; omega
    · cases h; decide
  · split at h
    · rw [cfgF_is] at h
      split at h
      · have := wrong_code h; omega
      · cases h; decide
    · exact stepF_code h
/-- The line at n, up to its end. -/
theorem Leads.line {l : List UInt8} {m : Nat} {L : List St} (h : Leads GR T n k false cfg L) (hl : T.drop n = l ++ 10 :: T.drop m) (h10 : (10 : UInt8) ∉ l) : GR = goP k (l :: pieces 10 (T.drop m)) cfg L := by
  rw [h.1 rfl, hl, pieces_app _ h10]
theorem Leads.bad {l : List UInt8} {m : Nat} {L : List St} (h : Leads GR T n k false cfg L) (hl : T.drop n = l ++ 10 :: T.drop m) (h10 : (10 : UInt8) ∉ l) (he : ¬ (2 < k ∧ fld (lineB l) 0 = endB)) {q : Nat × Int} (hf : lineF k (lineB l) = some q) : GR = .error (k, q.1, q.2) ∧ q.2 ≠ 0 :=
  ⟨by rw [h.line hl h10, goP_bad (pieces_ne _ _) he hf], lineF_code hf⟩
theorem Leads.good {l : List UInt8} {m : Nat} {L : List St} (h : Leads GR T n k false cfg L) (hl : T.drop n = l ++ 10 :: T.drop m) (h10 : (10 : UInt8) ∉ l) (he : ¬ (2 < k ∧ fld (lineB l) 0 = endB)) (hf : lineF k (lineB l) = none) :
    Leads GR T m (k + 1) false (nextCfg k (lineB l) cfg) (nextSt k (lineB l) L) :=
  ⟨fun _ => by rw [h.line hl h10, goP_one (pieces_ne _ _) he hf], fun q => by cases q⟩
theorem Leads.stop {l : List UInt8} {m : Nat} {L : List St} (h : Leads GR T n k false cfg L) (hl : T.drop n = l ++ 10 :: T.drop m) (h10 : (10 : UInt8) ∉ l) (he : 2 < k ∧ fld (lineB l) 0 = endB) :
    (∀ q, overF (lineB l) 1 = some q → GR = .error (k, q.1, q.2) ∧ q.2 ≠ 0) ∧ (overF (lineB l) 1 = none → Leads GR T m (k + 1) true cfg L) := by
  have h1 := h.line hl h10
  rw [goP_end he] at h1
  refine ⟨fun q hq => ⟨by rw [h1, hq], by have := over_code hq; omega⟩, fun hq => ⟨fun z => (by cases z), fun _ => by rw [h1, hq]⟩⟩
theorem Leads.none {L : List St} (h : Leads GR T n k false cfg L) (h10 : (10 : UInt8) ∉ T.drop n) : GR = .error (k, 0, 283) := by
  rw [h.1 rfl, pieces_not h10, goP]
theorem RParQ.bad {R : PRes} {l a : Nat} {c : Int} (hR : R = .error (l, a, c)) (hf : Fr [] w W) : RParQ n0 w R (.returned (.tuple #[.agg #[.int .i64 0, .int .i64 0, .int .i64 0, .int .i64 0, .int .i64 0, .int .i64 0, .int .i64 0, .int .i64 0, .int .i64 0, .int .i64 0, .int .i64 0, .slice none 0 0], .agg #[.int .i64 l, .int .i64 a, .int .i64 c]])) W := by
  subst hR
  exact ⟨rfl, hf⟩
theorem RParQ.good {R : PRes} (hR : R = .ok (cfg, C.map Prod.fst)) (hl : cfg.length = 11) (hs : StepsV W n0 v C) (hf : Fr [] w W) : RParQ n0 w R (.returned (.tuple #[.agg (scrC cfg v), .agg #[.int .i64 0, .int .i64 0, .int .i64 0]])) W := by
  subst hR
  exact ⟨v, C, rfl, hl, rfl, hs, hf⟩
/-- The list of steps grown, and written down. -/
theorem RpS.step {s : St} {bv v' : Value} (hl : cfg.length = 11) (hb : Blk W sb (scrC cfg v) 26) (hs : StepsV W n0 v C) (hby : BytV W n0 bv s.by') (hn : n0 ≤ W.heap.size) (happ : Appended W 64 5 v (C.length + 1) (rowC C ++ s.cells bv) v' W') :
    Blk W' sb (scrC cfg v) 26 ∧ Blk (W'.setCell ⟨sb, 11, none⟩ v') sb (scrC cfg v') 26 ∧ StepsV (W'.setCell ⟨sb, 11, none⟩ v') n0 v' (C ++ [(s, bv)]) := by
  have hb' : Blk W' sb (scrC cfg v) 26 := happ.fr.blk hb (own_notin hs.own hb (by decide))
  have h2 := hs.push hby hn happ
  refine ⟨hb', ?_, h2.frB ((Fr.refl _ _).setCell _ _ (.inl (by simp))) hb'⟩
  rw [← scrC_setL v' hl (v := v)]
  exact hb'.set 11 v'
end
theorem ftOk3 (a b c : Int) : ftOk #[.int .i64 a, .int .i64 b, .int .i64 c] = true := by simp [ftOk, Value.oneCell']
theorem drop_split {T : List UInt8} {n m : Nat} (hn : n ≤ m) (hm : m < T.length) (h : T[m] = 10) : T.drop n = (T.drop n).take (m - n) ++ 10 :: T.drop (m + 1) := by
  have h1 := List.take_append_drop (m - n) (T.drop n)
  rw [List.drop_drop, show n + (m - n) = m by omega, List.drop_eq_getElem_cons hm, h] at h1
  exact h1.symm
end Sc
end Go.Proofs.YtbpgpjibljgiiaaGreatDoor
namespace Go.Proofs.YtbpgpjibljgiiaaGreatDoor
open Go.RowKit Lib
set_option linter.unusedVariables false
set_option linter.unusedSimpArgs false
namespace Sc
theorem goP_code : ∀ (P : List (List UInt8)) (n : Nat) (cfg : List Int) (L0 : List St) (f : Flt3), goP n P cfg L0 = .error f → f.2.2 ≠ 0
  | [], n, cfg, L0, f, h => by rw [goP] at h; cases h; exact (by decide : (283 : Int) ≠ 0)
  | [l], n, cfg, L0, f, h => by rw [goP] at h; cases h; exact (by decide : (283 : Int) ≠ 0)
  | l :: m :: r, n, cfg, L0, f, h => by
    rw [goP] at h
    by_cases he : 2 < n ∧ fld (lineB l) 0 = endB
    · rw [if_pos he] at h
      cases ho : overF (lineB l) 1 with
      | some q => rw [ho] at h; cases h; have := over_code ho; show q.2 ≠ 0; omega
      | none =>
        rw [ho] at h
        by_cases hm : m :: r = [[]]
        · rw [if_pos hm] at h; cases h
        · rw [if_neg hm] at h; cases h; exact (by decide : (283 : Int) ≠ 0)
    · rw [if_neg he] at h
      cases hf : lineF n (lineB l) with
      | some q => rw [hf] at h; cases h; exact lineF_code hf
      | none => rw [hf] at h; exact goP_code (m :: r) _ _ _ f h
theorem parse_code {t : ByteArray} {f : Flt3} (h : parseP t = .error f) : f.2.2 ≠ 0 := by
  unfold parseP at h
  split at h
  · cases h; exact (by decide : (4 : Int) ≠ 0)
  · cases hg : goP 1 (pieces 10 t.data.toList) zeros [] with
    | error g => rw [hg] at h; cases h; exact goP_code _ _ _ _ _ hg
    | ok x =>
      obtain ⟨cfg, L⟩ := x
      rw [hg] at h
      by_cases hc : checkE cfg L = 0
      · rw [fin_ok hc] at h; cases h
      · rw [fin_bad hc] at h; cases h; exact hc
theorem print_sizes {cfg : List Int} {L : List St} (h : printE cfg L = 0) (hc : checkE cfg L = 0) : L.length ≤ 65536 ∧ ∀ s ∈ L, s.by'.length ≤ 4194304 := by
  constructor
  · unfold checkE at hc
    split at hc
    · rename_i q; exact absurd hc q
    · split at hc
      · cases hc
      · omega
  · intro s hs
    have hq : (L.all fun s => decide (lineE s = 0)) = true ∧ (printB cfg L).length ≤ 4194304 := Classical.byContradiction fun q => by rw [(printE_four hc q).1] at h; cases h
    have h1 := List.all_eq_true.1 hq.1 s hs
    have h1 : lineE s = 0 := by simpa using h1
    unfold lineE at h1
    split at h1
    · cases h1
    · rename_i hm
      split at h1
      · cases h1
      · rename_i hk
        by_cases hkd : s.kd = 1
        · have : ¬ 2097152 < s.by'.length := fun q => hk ⟨hkd, q⟩
          omega
        · have hm : mayS s = true := by simpa using hm
          have : s.by' = [] := by
            have hl : s.by'.length = 0 := by
              unfold mayS at hm
              split at hm
              · rename_i q; exact absurd q hkd
              all_goals
                simp only [Bool.and_eq_true, decide_eq_true_eq] at hm
                omega
            exact List.length_eq_zero_iff.1 hl
          rw [this]
          decide
theorem RParQ.lit {n0 : Nat} {w w' : World} {v0 v1 v2 v3 v4 v5 v6 v7 v8 v9 v10 : Int} {L : List St} {e : Ending} (h : RParQ n0 w (.ok ([v0, v1, v2, v3, v4, v5, v6, v7, v8, v9, v10], L)) e w') :
    ∃ p c C, e = .returned (.tuple #[.agg #[.int .i64 v0, .int .i64 v1, .int .i64 v2, .int .i64 v3, .int .i64 v4, .int .i64 v5, .int .i64 v6, .int .i64 v7, .int .i64 v8, .int .i64 v9, .int .i64 v10, .slice p L.length c], .agg #[.int .i64 0, .int .i64 0, .int .i64 0]]) ∧ C.map Prod.fst = L ∧ StepsV w' n0 (.slice p L.length c) C ∧ Fr [] w w' := by
  obtain ⟨v, C, rfl, -, hm, hv, hf⟩ := h
  have hl : C.length = L.length := by rw [← hm]; simp
  obtain ⟨p, c, rfl⟩ := own_form hv.own
  rw [hl] at hv ⊢
  exact ⟨p, c, C, rfl, hm, hv, hf⟩
/-- Steps that lie behind what changes. -/
theorem StepsV.frS {W W' : World} {n0 n1 m : Nat} {v : Value} {C : List (St × Value)} (h : StepsV W m v C) (f : Fr (List.range' n0 (n1 - n0)) W W') (hm : n1 ≤ m) : StepsV W' m v C :=
  ⟨own_fr h.own f (fun g hg hq => by have := h.blk g hg; rw [List.mem_range'_1] at hq; omega), h.blk, fun x hx => (h.byt x hx).fr' f (fun g hg hq => by have := (h.byt x hx).2 g hg; rw [List.mem_range'_1] at hq; omega)⟩
end Sc
end Go.Proofs.YtbpgpjibljgiiaaGreatDoor
