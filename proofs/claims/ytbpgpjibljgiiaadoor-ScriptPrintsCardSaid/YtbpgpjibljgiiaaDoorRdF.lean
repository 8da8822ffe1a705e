/-
  Slices by their cells: how one reads, element for element; append with any such source, nil or not. No statement about the program stands here.
-/
import Derived.Test.YtbpgpjibljgiiaaDoorRead
import Derived.Deep.MidRow
namespace Go.Proofs.YtbpgpjibljgiiaaDoor
open Go.RowKit
set_option linter.unusedVariables false

/-- A slice of n elements, 'size' cells each, that reads zs these cells; nil or not. -/
def RdF (w : World) (v : Value) (n size : Nat) (vs : List Value) : Prop :=
  ∃ p cap, v = .slice p n cap ∧ n ≤ cap ∧ cap ≤ maxLen ∧ vs.length = n * size ∧ (n = 0 ∨ ∃ g o, p = some ⟨g, o, none⟩ ∧ ∀ j u, vs[j]? = some u → w.cell? ⟨g, o + j, none⟩ = some u)
section
variable {w w' : World} {v : Value} {n size : Nat} {vs : List Value}
theorem RdF.grow (h : RdF w v n size vs) (hf : Fr [] w w') : RdF w' v n size vs := by
  obtain ⟨p, cap, rfl, h1, h2, h3, h4⟩ := h
  refine ⟨p, cap, rfl, h1, h2, h3, ?_⟩
  rcases h4 with h4 | ⟨g, o, rfl, h4⟩
  · exact .inl h4
  · exact .inr ⟨g, o, rfl, fun j u hj => (hf.cell (World.block_lt_of_cell? w _ (h4 j u hj)) (by simp)).trans (h4 j u hj)⟩
theorem RdF.fr {S : List Nat} (h : RdF w v n size vs) (hf : Fr S w w') (hs : ∀ g, v.ownBlock = some g → g ∉ S) : RdF w' v n size vs := by
  obtain ⟨p, cap, rfl, h1, h2, h3, h4⟩ := h
  refine ⟨p, cap, rfl, h1, h2, h3, ?_⟩
  rcases h4 with h4 | ⟨g, o, rfl, h4⟩
  · exact .inl h4
  · exact .inr ⟨g, o, rfl, fun j u hj => (hf.cell (World.block_lt_of_cell? w _ (h4 j u hj)) (hs g (by simp [Value.ownBlock]))).trans (h4 j u hj)⟩
theorem RdF.form (h : RdF w v n size vs) : ∃ p cap, v = .slice p n cap ∧ n ≤ cap ∧ cap ≤ maxLen := by
  obtain ⟨p, cap, rfl, h1, h2, _⟩ := h
  exact ⟨p, cap, rfl, h1, h2⟩
theorem RdF.pos (h : RdF w v n size vs) (hn : 0 < n) : ∃ g o cap, v = .slice (some ⟨g, o, none⟩) n cap ∧ n ≤ cap ∧ cap ≤ maxLen ∧ ∀ j u, vs[j]? = some u → w.cell? ⟨g, o + j, none⟩ = some u := by
  obtain ⟨p, cap, rfl, h1, h2, h3, h4⟩ := h
  obtain ⟨g, o, rfl, h5⟩ := h4.resolve_left (by omega)
  exact ⟨g, o, cap, rfl, h1, h2, h5⟩
theorem RdF.of_own {e : TypeId} (hz : 0 < size) (h : w.ownsRow 0 e size v n vs) (hc : n ≤ maxLen) : RdF w v n size vs := by
  have hl := h.1
  rcases h.2 with ⟨rfl, hn0⟩ | ⟨g, cap, cur, rfl, _, hg, hnc, hcm, hcs, _⟩
  · exact ⟨none, 0, by rw [hn0], by omega, by decide, hl, .inl hn0⟩
  · refine ⟨_, cap, rfl, hnc, hcm, hl, .inr ⟨g, 0, rfl, fun j u hj => ?_⟩⟩
    have := h.cells (g := g) rfl j u hj
    rw [Addr.add_lit] at this
    exact this
end
/-! ### elements by their cells -/
section
variable {α : Type} (enc : α → List Value)
theorem flatV_len {size : Nat} (h : ∀ a, (enc a).length = size) : ∀ zs : List α, (zs.flatMap enc).length = zs.length * size
  | [] => by simp
  | a :: zs => by rw [List.flatMap_cons, List.length_append, h, flatV_len h zs, List.length_cons, Nat.add_mul, Nat.one_mul, Nat.add_comm]
theorem flatV_get {size : Nat} (h : ∀ a, (enc a).length = size) : ∀ (zs : List α) (k j : Nat) (a : α), zs[k]? = some a → j < size → (zs.flatMap enc)[k * size + j]? = (enc a)[j]?
  | [], k, j, a, hk, hj => by simp at hk
  | b :: zs, 0, j, a, hk, hj => by
    simp at hk
    subst hk
    rw [Nat.zero_mul, Nat.zero_add, List.flatMap_cons, List.getElem?_append_left (by rw [h]; exact hj)]
  | b :: zs, k + 1, j, a, hk, hj => by
    rw [List.flatMap_cons, List.getElem?_append_right (by rw [h, Nat.add_mul]; omega), h, show (k + 1) * size + j - size = k * size + j by rw [Nat.add_mul]; omega]
    exact flatV_get h zs k j a (by simpa using hk) hj
theorem flatV_one (h1 : ∀ a, ∀ u ∈ enc a, u.oneCell' = true) (zs : List α) : ∀ u ∈ zs.flatMap enc, u.oneCell' = true := by
  intro u hu
  obtain ⟨a, _, h⟩ := List.mem_flatMap.1 hu
  exact h1 a u h
theorem RdF.at {w : World} {v : Value} {size : Nat} (h : ∀ a, (enc a).length = size) {zs : List α} (hr : RdF w v zs.length size (zs.flatMap enc)) {k : Nat} {a : α} (hk : zs[k]? = some a) :
    ∃ g o cap, v = .slice (some ⟨g, o, none⟩) zs.length cap ∧ zs.length ≤ cap ∧ cap ≤ maxLen ∧ ∀ j u, (enc a)[j]? = some u → w.cell? ⟨g, o + (k * size + j), none⟩ = some u := by
  have hl : k < zs.length := (List.getElem?_eq_some_iff.1 hk).1
  obtain ⟨g, o, cap, hv, h1, h2, h3⟩ := hr.pos (by omega)
  refine ⟨g, o, cap, hv, h1, h2, fun j u hj => h3 _ _ ?_⟩
  have hj' : j < size := by rw [← h a]; exact (List.getElem?_eq_some_iff.1 hj).1
  rw [flatV_get enc h zs k j a hk hj', hj]
theorem RdF.of_rds {w : World} {v : Value} {size : Nat} {Q : List Value → α → Prop} (h : ∀ a, (enc a).length = size) (hz : 0 < size) (hQ : ∀ cs a, Q cs a → cs = enc a) {zs : List α} (hr : RdS w v size Q zs) : RdF w v zs.length size (zs.flatMap enc) := by
  obtain ⟨p, cap, rfl, h1, h2, h3⟩ := hr
  refine ⟨p, cap, rfl, h1, h2, flatV_len enc h zs, ?_⟩
  rcases h3 with h3 | ⟨g, o, rfl, h3⟩
  · exact .inl h3
  · refine .inr ⟨g, o, rfl, fun j u hj => ?_⟩
    have hjl : j < zs.length * size := by rw [← flatV_len enc h zs]; exact (List.getElem?_eq_some_iff.1 hj).1
    have hk : j / size < zs.length := (Nat.div_lt_iff_lt_mul hz).2 hjl
    have hm : j % size < size := Nat.mod_lt _ hz
    have hjm : j / size * size + j % size = j := Nat.div_add_mod' j size
    obtain ⟨cs, hc1, hc2, hc3⟩ := h3 (j / size) hk
    have e := flatV_get enc h zs (j / size) (j % size) zs[j / size] (List.getElem?_eq_getElem hk) hm
    rw [hjm, hj, ← hQ _ _ hc3] at e
    have := hc2 (j % size) u e.symm
    rwa [Nat.add_assoc, hjm] at this
end
/-! ### append -/
section
variable {P : Program}
theorem run_app_nil (w : World) (t ty e : TypeId) (i : TypeInfo) (size : Nat) (ht : P.underlying t = some (.slice e)) (hi : P.info? e = some i)
    (v : Value) (n : Nat) (xs : List Value) (hown : w.ownsRow 0 e size v n xs) (c : Nat) : (Builtin.append_ #[t, t] ty #[v, .slice none 0 c]).run P w = .ok v w := by
  rcases hown.2 with ⟨rfl, rfl⟩ | ⟨g, cap, cur, rfl, _, _, hnc, _⟩
  · simp [Builtin.append_, run_underlying ht, sizeOf, typeInfo, hi, Builtin.lenOf, Builtin.firstCells]
  · simp [Builtin.append_, run_underlying ht, sizeOf, typeInfo, hi, Builtin.lenOf, Builtin.firstCells, hnc, storeCells]
theorem run_appF (w : World) (t ty e : TypeId) (i : TypeInfo) (z : Value) (size bytes : Nat) (ht : P.underlying t = some (.slice e)) (hi : P.info? e = some i) (hz : i.zero = some z) (hsize : i.size = size) (hby : i.bytes = bytes) (hzs : z.cells.size = size) (hsz : 0 < size)
    (v : Value) (k : Nat) (xs : List Value) (hown : w.ownsRow 0 e size v k xs) (xv : Value) (m : Nat) (news : List Value) (hr : RdF w xv m size news) (h1c : ∀ u ∈ news, u.oneCell' = true) (b1 : k + m ≤ maxLen) (b2 : (k + m) * bytes ≤ 140737488355328) :
    ∃ v' w', (Builtin.append_ #[t, t] ty #[v, xv]).run P w = .ok v' w' ∧ Appended w e size v (k + m) (xs ++ news) v' w' := by
  obtain ⟨p, cap, rfl, hc, hm, hl, h0⟩ := hr
  have hmk : ∀ ad : Addr, p = some ad → (∀ j u, news[j]? = some u → w.cell? (ad.add j) = some u) → ∃ v' w', (Builtin.append_ #[t, t] ty #[v, .slice p m cap]).run P w = .ok v' w' ∧ Appended w e size v (k + m) (xs ++ news) v' w' := by
    rintro ad rfl hcells
    obtain ⟨v', w', hrun, r1, r2, -⟩ := run_append_own (P := P) w 0 t ty e i z size bytes ht hi hz hsize hby hzs hsz v k xs hown ad m cap news hl hcells h1c b1 b2 (Nat.zero_le _)
    have r4 := run_app_where w t ty e i z size bytes ht hi hz hsize hby v k xs hown ad m cap news hl hcells h1c b1 b2 v' w' hrun
    exact ⟨v', w', hrun, r1, r2, r4⟩
  rcases h0 with h0 | ⟨g, o, rfl, h0⟩
  · subst h0
    have hn : news = [] := List.eq_nil_of_length_eq_zero (by simpa using hl)
    subst hn
    cases p with
    | some ad => exact hmk ad rfl (fun j u hj => by simp at hj)
    | none =>
      refine ⟨v, w, run_app_nil w t ty e i size ht hi v k xs hown cap, ⟨by simpa using hown, World.grownBy.refl w _, .inl rfl⟩⟩
  · exact hmk _ rfl fun j u hj => by
      rw [Addr.add_mid]
      exact h0 j u hj
theorem wpList_appF (w : World) {ops : Array Oper} {rest : List Oper} {o : Oper} {a : Act} {Q : Exit → Act → World → Prop}
    (hg : o.guard = none) (s x : Operand) (t : TypeId) (hop : o.op = Op.call { callee := Callee.builtin Builtin.append, args := #[s, x], argTypes := #[t, t] })
    (e : TypeId) (z : Value) (size bytes : Nat) (h1 : P.underlying t = some (.slice e)) (h2 : (P.info? e).map (fun i => (i.zero, i.size, i.bytes)) = some (some z, size, bytes)) (h6 : z.cells.size = size) (h7 : 0 < size)
    (v : Value) (k : Nat) (xs : List Value) (hs : a.eval s = v) (hown : w.ownsRow 0 e size v k xs) (xv : Value) (m : Nat) (news : List Value) (hx : a.eval x = xv) (hr : RdF w xv m size news)
    (h1c : ∀ u ∈ news, u.oneCell' = true) (b1 : k + m ≤ maxLen) (b2 : (k + m) * bytes ≤ 140737488355328)
    (hK : ∀ v' w', Appended w e size v (k + m) (xs ++ news) v' w' → wpList P ops Q rest (a.put o.dst v') w') :
    wpList P ops Q (o :: rest) a w := by
  obtain ⟨i, hi, hz, hsz, hby⟩ := info_parts h2
  refine wpList_plain hg fun K hK' => ?_
  obtain ⟨v', w', hrun, hap⟩ := run_appF (P := P) w t o.type e i z size bytes h1 hi hz hsz hby h6 h7 v k xs hown xv m news hr h1c b1 b2
  unfold Oper.wp execOp
  simp only [hop, resolve, invoke, builtin, Sem.run_bind, Sem.run_pure, Result.andThen_ok, List.map_toArray, List.map_cons, List.map_nil, hs, hx, hrun]
  exact hK' _ _ (hK v' w' hap)
theorem wpListIn_appF {F : Fence} {n : Nat} (w : World) {ops : Array Oper} {rest : List Oper} {o : Oper} {a : Act} {Q : Exit → Act → World → Prop}
    (hg : o.guard = none) (s x : Operand) (t : TypeId) (hop : o.op = Op.call { callee := Callee.builtin Builtin.append, args := #[s, x], argTypes := #[t, t] })
    (e : TypeId) (z : Value) (size bytes : Nat) (h1 : P.underlying t = some (.slice e)) (h2 : (P.info? e).map (fun i => (i.zero, i.size, i.bytes)) = some (some z, size, bytes)) (h6 : z.cells.size = size) (h7 : 0 < size)
    (v : Value) (k : Nat) (xs : List Value) (hs : a.eval s = v) (hown : w.ownsRow 0 e size v k xs) (xv : Value) (m : Nat) (news : List Value) (hx : a.eval x = xv) (hr : RdF w xv m size news)
    (h1c : ∀ u ∈ news, u.oneCell' = true) (b1 : k + m ≤ maxLen) (b2 : (k + m) * bytes ≤ 140737488355328)
    (hK : ∀ v' w', Appended w e size v (k + m) (xs ++ news) v' w' → wpListIn F n P ops Q rest (a.put o.dst v') w') :
    wpListIn F n P ops Q (o :: rest) a w := by
  obtain ⟨i, hi, hz, hsz, hby⟩ := info_parts h2
  refine wpListIn_plain hg fun K hK' => ?_
  obtain ⟨v', w', hrun, hap⟩ := run_appF (P := P) w t o.type e i z size bytes h1 hi hz hsz hby h6 h7 v k xs hown xv m news hr h1c b1 b2
  unfold Oper.wpIn
  refine ⟨?_, ?_⟩
  · simp [Oper.about, hop, resolve, Target.leads, Sem.run_pure]
  · rw [Oper.semAt_plain F _ _ (by rw [hop]; intro c hc'; cases hc')]
    simp [execOp, hop, resolve, invoke, builtin, hs, hx, hrun, Result.andThen]
    exact hK' _ _ (hK v' w' hap)
end
end Go.Proofs.YtbpgpjibljgiiaaDoor
