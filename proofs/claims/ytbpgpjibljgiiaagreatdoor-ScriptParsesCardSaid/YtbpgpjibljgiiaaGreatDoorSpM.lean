/-
  Bytes that are written over and grown, where others may lie beside them: what a step's bytes still are.
  The memory of spoilt, between two of its writes.
  spoilt: steps that were answered are written over, and grown. Printed by genSp.py.
-/
import Derived.Test.YtbpgpjibljgiiaaGreatDoorLefA
import Derived.Test.YtbpgpjibljgiiaaGreatDoorChkA
namespace Go.Proofs.YtbpgpjibljgiiaaGreatDoor
open Go.RowKit
set_option linter.unusedVariables false
set_option linter.unusedSimpArgs false
namespace Sc
/-- The blocks from n0 on, below n1. -/
abbrev bw (n0 n1 : Nat) : List Nat := List.range' n0 (n1 - n0)
theorem mem_bw {n0 n1 b : Nat} : b ∈ bw n0 n1 ↔ n0 ≤ b ∧ b < n1 := by
  rw [List.mem_range'_1]; omega
/-- n bytes, whatever they are. -/
def O8 (W : World) (v : Value) (n : Nat) : Prop := ∃ l : List Int, l.length = n ∧ W.ownsRow 0 5 1 v n (u8s l)
theorem O8.of {W : World} {v : Value} {l : List Int} (h : W.ownsRow 0 5 1 v l.length (u8s l)) : O8 W v l.length := ⟨l, rfl, h⟩
section
variable {W W' : World} {v : Value} {n : Nat}
theorem O8.form (h : O8 W v n) : ∃ p c, v = .slice p n c := by
  obtain ⟨l, _, h⟩ := h
  exact own_form h
theorem O8.fr {S : List Nat} (h : O8 W v n) (f : Fr S W W') (hs : ∀ g, v.ownBlock = some g → g ∉ S) : O8 W' v n := by
  obtain ⟨l, hl, h⟩ := h
  exact ⟨l, hl, own_fr h f hs⟩
theorem O8.set (h : O8 W v n) (g k : Nat) (z : Int) : O8 (W.setCell ⟨g, k, none⟩ (.int .u8 z)) v n := by
  obtain ⟨l, hl, h1, h2⟩ := h
  rcases h2 with h2 | ⟨b, cap, cur, rfl, h3, h4, h5, h6, h7, h8⟩
  · exact ⟨l, hl, h1, .inl h2⟩
  · by_cases hb : b = g
    · subst hb
      have h9 : (W.setCell ⟨b, k, none⟩ (.int .u8 z)).heap[b]? = some (.cells (cur.setIfInBounds k (.int .u8 z)) 5 (0, 0)) := Blk.set h4 k _
      refine ⟨l.set k z, by simp [hl], by simp [u8s, hl], .inr ⟨b, cap, _, rfl, h3, h9, h5, h6, by simp [h7], ?_⟩⟩
      rw [Array.toList_setIfInBounds, List.take_set, h8]
      simp [u8s, List.map_set]
    · exact ⟨l, hl, h1, .inr ⟨b, cap, cur, rfl, h3, (Below.heap_setCell W _ _ b hb).trans h4, h5, h6, h7, h8⟩⟩
theorem O8.ne (h : O8 W v n) {g : Nat} {cs : Array Value} {e : TypeId} (hb : Blk W g cs e) (he : 5 ≠ e) : ∀ b, v.ownBlock = some b → b ≠ g := fun b hv q => by
  obtain ⟨l, _, h⟩ := h
  exact own_ne h hv hb he q.symm
theorem O8.lt (h : O8 W v n) : ∀ b, v.ownBlock = some b → b < W.heap.size := fun b hv => by
  obtain ⟨l, _, h⟩ := h
  exact own_lt h hv
theorem O8.cell (h : O8 W v n) {k : Nat} (hk : k < n) : ∃ b c z, v = .slice (some ⟨b, 0, none⟩) n c ∧ n ≤ c ∧ W.cell? ⟨b, k, none⟩ = some (.int .u8 z) ∧ W.frozen? ⟨b, k, none⟩ = false := by
  obtain ⟨l, hl, h1, h2⟩ := h
  rcases h2 with ⟨_, h2⟩ | ⟨b, cap, cur, rfl, h3, h4, h5, h6, h7, h8⟩
  · omega
  · have hz : (u8s l)[k]? = some (.int .u8 (l[k]'(by omega))) := by simp [u8s, hl, hk]
    have hc : cur[k]? = some (.int .u8 (l[k]'(by omega))) := by
      rw [← h8, List.getElem?_take, if_pos (by omega)] at hz
      simpa using hz
    exact ⟨b, cap, _, rfl, h5, Blk.at h4 k hc, Blk.free h4 k⟩
/-- One byte appended: other bytes are bytes still. -/
theorem O8.app (h : O8 W v n) (hb : n + 1 ≤ 4294967296) (ty : TypeId) (ad : Addr) (c' : Nat) (z : Int) (hc : ∀ j u, [Value.int .u8 z][j]? = some u → W.cell? (ad.add j) = some u) :
    ∃ v' w', (Builtin.append_ #[62, 62] ty #[v, .slice (some ad) 1 c']).run Tryz.prog W = .ok v' w' ∧ O8 w' v' (n + 1) ∧ (∀ u m, O8 W u m → O8 w' u m) ∧ Fr v.ownBlock.toList W w' ∧ (v'.ownBlock = v.ownBlock ∨ v'.ownBlock = some W.heap.size) := by
  obtain ⟨i, hi, hz, hsz, hby⟩ := info_parts Sc.infoU8
  obtain ⟨l, hl, hown⟩ := h
  obtain ⟨v', w', hrun, r1, r2, -⟩ := run_append_own (P := Tryz.prog) W 0 62 ty 5 i (.int .u8 0) 1 1 Tryz.underlying62 hi hz hsz hby rfl (by decide) v n (u8s l) hown ad 1 c' [.int .u8 z] rfl hc (by simp [Value.oneCell']) (by unfold maxLen; omega) (by omega) (Nat.zero_le _)
  have r4 := run_app_where W 62 ty 5 i (.int .u8 0) 1 1 Tryz.underlying62 hi hz hsz hby v n (u8s l) hown ad 1 c' [.int .u8 z] rfl hc (by simp [Value.oneCell']) (by unfold maxLen; omega) (by omega) v' w' hrun
  have hfr : Fr v.ownBlock.toList W w' := Appended.fr (e := 5) (size := 1) ⟨r1, r2, r4⟩
  refine ⟨v', w', hrun, ⟨l ++ [z], by simp [hl], by simpa [u8s] using r1⟩, ?_, hfr, r4⟩
  rcases hown.2 with ⟨rfl, _⟩ | ⟨b, cap, cur, rfl, -, hg, h2, h3, h4, h5⟩
  · exact fun u m hu => hu.fr hfr (by simp [Value.ownBlock])
  · by_cases hr : n + 1 ≤ cap
    · have hf := run_firstCells_some (P := Tryz.prog) W 1 1 ad 1 c' [.int .u8 z] rfl hc
      have h1 := run_storeCells_cells (P := Tryz.prog) b (0 + n) [.int .u8 z] 0 W (fun j hj => by
        have hj' : j = 0 := by simpa using hj
        subst hj'
        have : n < cur.size := by omega
        simp [World.cell?, hg, this]) (fun j hj => Blk.free hg _) (by simp [Value.oneCell'])
      have hrun2 : (Builtin.append_ #[62, 62] ty #[.slice (some ⟨b, 0, none⟩) n cap, .slice (some ad) 1 c']).run Tryz.prog W = .ok (.slice (some ⟨b, 0, none⟩) (n + 1) cap) (W.setCells b n [.int .u8 z]) := by
        simp only [Nat.zero_add, Nat.add_zero] at h1
        simp [Builtin.append_, run_underlying Tryz.underlying62, sizeOf, typeInfo, hi, hsz, Builtin.lenOf, hr, hf, Addr.add_lit, h1]
      rw [hrun2] at hrun
      have hw : W.setCells b n [.int .u8 z] = w' := by
        injection hrun
      rw [← hw]
      intro u m hu
      exact hu.set b n z
    · have hold : ∀ j u, (u8s l)[j]? = some u → W.cell? ((⟨b, 0, none⟩ : Addr).add j) = some u := fun j u hu => by
        rw [Addr.add_lit, Nat.zero_add]
        refine Blk.at hg j ?_
        rw [← h5, List.getElem?_take] at hu
        split at hu
        · simpa using hu
        · cases hu
      have hrun2 := run_append_grow (P := Tryz.prog) W 62 ty 5 i (.int .u8 0) Tryz.underlying62 hi hz ⟨b, 0, none⟩ n cap (u8s l) (by rw [hown.1, hsz]) hold ad 1 c' [.int .u8 z] (by rw [hsz]; rfl) hc (by omega) (by omega) (growslice_fits (by omega) (by rw [hby]; omega))
      rw [hrun2] at hrun
      have hw := hrun
      injection hw with _ hw
      rw [← hw]
      intro u m hu
      exact hu.fr (((Fr.refl [] W).drew).alloc _) (by simp)
end
theorem wpList_app8 {W : World} {v : Value} {n : Nat} (h : O8 W v n) (hb : n + 1 ≤ 4294967296) {ops : Array Oper} {rest : List Oper} {o : Oper} {a : Act} {Q : Exit → Act → World → Prop}
    (hg : o.guard = none) (s x : Operand) (hop : o.op = Op.call { callee := Callee.builtin Builtin.append, args := #[s, x], argTypes := #[62, 62] }) (hs : a.eval s = v) (ad : Addr) (c' : Nat) (z : Int) (hx : a.eval x = .slice (some ad) 1 c')
    (hc : ∀ j u, [Value.int .u8 z][j]? = some u → W.cell? (ad.add j) = some u)
    (hK : ∀ v' w', O8 w' v' (n + 1) → (∀ u m, O8 W u m → O8 w' u m) → Fr v.ownBlock.toList W w' → (v'.ownBlock = v.ownBlock ∨ v'.ownBlock = some W.heap.size) → wpList Tryz.prog ops Q rest (a.put o.dst v') w') :
    wpList Tryz.prog ops Q (o :: rest) a W := by
  refine wpList_plain hg fun K hK' => ?_
  obtain ⟨v', w', hrun, r1, r2, r3, r4⟩ := h.app hb o.type ad c' z hc
  unfold Oper.wp execOp
  simp only [hop, resolve, invoke, builtin, Sem.run_bind, Sem.run_pure, Result.andThen_ok, List.map_toArray, List.map_cons, List.map_nil, hs, hx, hrun]
  exact hK' _ _ (hK v' w' r1 r2 r3 r4)
end Sc
end Go.Proofs.YtbpgpjibljgiiaaGreatDoor
namespace Go.Proofs.YtbpgpjibljgiiaaGreatDoor
open Go.RowKit
set_option linter.unusedVariables false
set_option linter.unusedSimpArgs false
namespace Sc
/-- Steps from i on are as they were, but for what their bytes hold. -/
structure SpI (w : World) (S : List Nat) (v : Value) (C : List (St × Value)) (i : Nat) (W : World) : Prop where
  fr : Fr S w W
  row : ∃ xs, W.ownsRow 0 64 5 v C.length xs ∧ ∀ (k : Nat) (x : St × Value), i ≤ k → C[k]? = some x → xs[k * 5 + 4]? = some x.2
  by8 : ∀ (k : Nat) (x : St × Value), i ≤ k → C[k]? = some x → O8 W x.2 x.1.by'.length
  at' : ∀ b, v.ownBlock = some b → b ∈ S ∨ w.heap.size ≤ b
  pl : ∀ (k : Nat) (x : St × Value), C[k]? = some x → ∀ b, x.2.ownBlock = some b → b ∈ S ∨ w.heap.size ≤ b
/-- .. and step i has these bytes. -/
structure SpJ (w : World) (S : List Nat) (v : Value) (C : List (St × Value)) (i : Nat) (W : World) (u : Value) (m : Nat) : Prop where
  fr : Fr S w W
  row : ∃ xs, W.ownsRow 0 64 5 v C.length xs ∧ xs[i * 5 + 4]? = some u ∧ ∀ (k : Nat) (x : St × Value), i + 1 ≤ k → C[k]? = some x → xs[k * 5 + 4]? = some x.2
  own : O8 W u m
  opl : ∀ b, u.ownBlock = some b → b ∈ S ∨ w.heap.size ≤ b
  by8 : ∀ (k : Nat) (x : St × Value), i + 1 ≤ k → C[k]? = some x → O8 W x.2 x.1.by'.length
  at' : ∀ b, v.ownBlock = some b → b ∈ S ∨ w.heap.size ≤ b
  pl : ∀ (k : Nat) (x : St × Value), C[k]? = some x → ∀ b, x.2.ownBlock = some b → b ∈ S ∨ w.heap.size ≤ b
theorem row_blk {W : World} {v : Value} {n : Nat} {xs : List Value} (h : W.ownsRow 0 64 5 v n xs) {i : Nat} (hi : i < n) : ∃ g c cur, v = .slice (some ⟨g, 0, none⟩) n c ∧ n ≤ c ∧ Blk W g cur 64 ∧ cur.size = c * 5 ∧ cur.toList.take (n * 5) = xs := by
  rcases h.2 with ⟨_, h2⟩ | ⟨g, cap, cur, rfl, -, h4, h5, h6, h7, h8⟩
  · omega
  · exact ⟨g, cap, cur, rfl, h5, h4, h7, h8⟩
theorem row_set {W : World} {g c n : Nat} {xs : List Value} (h : W.ownsRow 0 64 5 (.slice (some ⟨g, 0, none⟩) n c) n xs) (k : Nat) (u : Value) : (W.setCell ⟨g, k, none⟩ u).ownsRow 0 64 5 (.slice (some ⟨g, 0, none⟩) n c) n (xs.set k u) := by
  refine ⟨by rw [List.length_set]; exact h.1, ?_⟩
  rcases h.2 with ⟨h2, _⟩ | ⟨g', cap, cur, he, h3, h4, h5, h6, h7, h8⟩
  · cases h2
  · obtain ⟨e1, -, rfl⟩ := Value.slice.inj he
    simp at e1
    subst e1
    refine .inr ⟨g, c, _, rfl, h3, Blk.set h4 k u, h5, h6, by simp [h7], ?_⟩
    rw [Array.toList_setIfInBounds, List.take_set, h8]
section
variable {w W W' : World} {S : List Nat} {v u : Value} {C : List (St × Value)} {i m : Nat}
theorem SpI.grow (h : SpI w S v C i W) (f : Fr [] W W') : SpI w S v C i W' := by
  obtain ⟨xs, h1, h2⟩ := h.row
  exact ⟨h.fr.trans f (by simp), ⟨xs, own_fr h1 f (by simp), h2⟩, fun k x hk hx => (h.by8 k x hk hx).fr f (by simp), h.at', h.pl⟩
theorem SpJ.grow (h : SpJ w S v C i W u m) (f : Fr [] W W') : SpJ w S v C i W' u m := by
  obtain ⟨xs, h1, h2⟩ := h.row
  exact ⟨h.fr.trans f (by simp), ⟨xs, own_fr h1 f (by simp), h2⟩, h.own.fr f (by simp), h.opl, fun k x hk hx => (h.by8 k x hk hx).fr f (by simp), h.at', h.pl⟩
theorem SpI.cell (h : SpI w S v C i W) {x : St × Value} (hx : C[i]? = some x) : ∃ g c, v = .slice (some ⟨g, 0, none⟩) C.length c ∧ C.length ≤ c ∧ W.cell? ⟨g, i * 5 + 4, none⟩ = some x.2 := by
  obtain ⟨xs, h1, h2⟩ := h.row
  have hi : i < C.length := (List.getElem?_eq_some_iff.1 hx).1
  obtain ⟨g, c, cur, rfl, h3, h4, h5, h6⟩ := row_blk h1 hi
  refine ⟨g, c, rfl, h3, h4.at _ ?_⟩
  have := h2 i x (Nat.le_refl _) hx
  rw [← h6, List.getElem?_take, if_pos (by omega)] at this
  simpa using this
theorem SpJ.cell (h : SpJ w S v C i W u m) (hi : i < C.length) : ∃ g c cur, v = .slice (some ⟨g, 0, none⟩) C.length c ∧ C.length ≤ c ∧ W.cell? ⟨g, i * 5 + 4, none⟩ = some u ∧ Blk W g cur 64 ∧ cur.size = c * 5 := by
  obtain ⟨xs, h1, h2, h3⟩ := h.row
  obtain ⟨g, c, cur, rfl, h4, h5, h6, h7⟩ := row_blk h1 hi
  refine ⟨g, c, cur, rfl, h4, h5.at _ ?_, h5, h6⟩
  rw [← h7, List.getElem?_take, if_pos (by omega)] at h2
  simpa using h2
theorem SpI.row_ne (h : SpI w S v C i W) {k : Nat} {x : St × Value} (hk : i ≤ k) (hx : C[k]? = some x) {b : Nat} (hb : x.2.ownBlock = some b) : ∀ g, v.ownBlock = some g → g ≠ b := fun g hg q => by
  obtain ⟨xs, h1, -⟩ := h.row
  obtain ⟨g', c, cur, rfl, -, h4, -⟩ := row_blk h1 (i := k) ((List.getElem?_eq_some_iff.1 hx).1)
  simp [Value.ownBlock] at hg
  subst hg
  exact (h.by8 k x hk hx).ne h4 (by decide) b hb q.symm
theorem SpI.set (h : SpI w S v C i W) {x : St × Value} (hx : C[i]? = some x) {b : Nat} (hb : x.2.ownBlock = some b) (k : Nat) (z : Int) : SpI w S v C i (W.setCell ⟨b, k, none⟩ (.int .u8 z)) := by
  obtain ⟨xs, h1, h2⟩ := h.row
  have f : Fr [b] W (W.setCell ⟨b, k, none⟩ (.int .u8 z)) := (Fr.refl _ _).setCell _ _ (.inl (by simp))
  refine ⟨h.fr.setCell _ _ (h.pl i x hx b hb), ⟨xs, own_fr h1 f (fun g hg hm => h.row_ne (Nat.le_refl _) hx hb g hg (by simpa using hm)), h2⟩, fun k' y hk hy => (h.by8 k' y hk hy).set b k z, h.at', h.pl⟩
theorem SpI.toJ (h : SpI w S v C i W) {x : St × Value} (hx : C[i]? = some x) : SpJ w S v C i W x.2 x.1.by'.length := by
  obtain ⟨xs, h1, h2⟩ := h.row
  exact ⟨h.fr, ⟨xs, h1, h2 i x (Nat.le_refl _) hx, fun k y hk hy => h2 k y (by omega) hy⟩, h.by8 i x (Nat.le_refl _) hx, h.pl i x hx, fun k y hk hy => h.by8 k y (by omega) hy, h.at', h.pl⟩
/-- The bytes appended, not yet written down. -/
theorem SpJ.mid (h : SpJ w S v C i W u m) (hi : i < C.length) {u' : Value} (h1 : O8 W' u' (m + 1)) (h2 : ∀ y n, O8 W y n → O8 W' y n) (h3 : Fr u.ownBlock.toList W W') (h4 : u'.ownBlock = u.ownBlock ∨ u'.ownBlock = some W.heap.size) :
    ∃ g c cur, v = .slice (some ⟨g, 0, none⟩) C.length c ∧ Blk W' g cur 64 ∧ cur.size = c * 5 ∧ C.length ≤ c ∧ SpJ w S v C i (W'.setCell ⟨g, i * 5 + 4, none⟩ u') u' (m + 1) := by
  obtain ⟨xs, r1, r2, r3⟩ := h.row
  obtain ⟨g, c, cur, rfl, q1, q2, q3, q4⟩ := row_blk r1 hi
  have hne : ∀ b, u.ownBlock = some b → b ≠ g := h.own.ne q2 (by decide)
  have hb' : Blk W' g cur 64 := h3.blk q2 (fun hm => hne g (by simpa using hm) rfl)
  have hr' := own_fr r1 h3 (fun b hb hm => by simp [Value.ownBlock] at hb; subst hb; exact hne _ (by simpa using hm) rfl)
  have fW : Fr S w W' := h.fr.trans h3 (fun b hb => by
    rcases h.opl b (by simpa using hb) with q | q
    · exact .inl q
    · exact .inr q)
  have fs : Fr [g] W' (W'.setCell ⟨g, i * 5 + 4, none⟩ u') := (Fr.refl _ _).setCell _ _ (.inl (by simp))
  have hnb : ∀ {y : Value} {n : Nat}, O8 W' y n → O8 (W'.setCell ⟨g, i * 5 + 4, none⟩ u') y n := fun {y n} hy => hy.fr fs (fun b hb hm => hy.ne hb' (by decide) b hb (by simpa using hm))
  refine ⟨g, c, cur, rfl, hb', q3, q1, ⟨fW.setCell _ _ (h.at' g rfl), ⟨_, row_set hr' (i * 5 + 4) u', ?_, fun k y hk hy => ?_⟩, hnb h1, fun b hb => ?_, fun k y hk hy => hnb (h2 _ _ (h.by8 k y hk hy)), h.at', h.pl⟩⟩
  · rw [List.getElem?_set_self]
    have := r1.1
    omega
  · rw [List.getElem?_set_ne (by omega)]
    exact r3 k y hk hy
  · rcases h4 with q | q
    · exact h.opl b (by rw [← q]; exact hb)
    · rw [q] at hb; cases hb; exact .inr h.fr.size
theorem SpJ.lane (h : SpJ w S v C i W u m) (hi : i < C.length) (y : Value) : ∃ g c cur, v = .slice (some ⟨g, 0, none⟩) C.length c ∧ Blk W g cur 64 ∧ cur.size = c * 5 ∧ C.length ≤ c ∧ SpI w S v C (i + 1) (W.setCell ⟨g, i * 5 + 1, none⟩ y) := by
  obtain ⟨xs, r1, r2, r3⟩ := h.row
  obtain ⟨g, c, cur, rfl, q1, q2, q3, q4⟩ := row_blk r1 hi
  have fs : Fr [g] W (W.setCell ⟨g, i * 5 + 1, none⟩ y) := (Fr.refl _ _).setCell _ _ (.inl (by simp))
  refine ⟨g, c, cur, rfl, q2, q3, q1, ⟨h.fr.setCell _ _ (h.at' g rfl), ⟨_, row_set r1 (i * 5 + 1) y, fun k z hk hz => ?_⟩, fun k z hk hz => (h.by8 k z hk hz).fr fs (fun b hb hm => (h.by8 k z hk hz).ne q2 (by decide) b hb (by simpa using hm)), h.at', h.pl⟩⟩
  rw [List.getElem?_set_ne (by omega)]
  exact r3 k z hk hz
end
theorem SpI.start {w1 w : World} {n0 : Nat} {v : Value} {C : List (St × Value)} (h : StepsV w1 n0 v C) (f : Fr [] w1 w) : SpI w (bw n0 w1.heap.size) v C 0 w := by
  refine ⟨Fr.refl _ _, ⟨_, own_fr h.own f (by simp), fun k x hk hx => rowC_at hx 4 x.2 rfl⟩, fun k x hk hx => ?_, fun b hb => .inl (mem_bw.2 ⟨h.blk b hb, own_lt h.own hb⟩), fun k x hx b hb => .inl (mem_bw.2 ?_)⟩
  · obtain ⟨p, c, he⟩ := (h.byt x (List.mem_of_getElem? hx)).form
    exact O8.of (own_fr (h.byt x (List.mem_of_getElem? hx)).1 f (by simp))
  · exact ⟨(h.byt x (List.mem_of_getElem? hx)).2 b hb, own_lt (h.byt x (List.mem_of_getElem? hx)).1 hb⟩
def Stab.u8 : Stab := ⟨fun u _ => ∃ y : Int, u = .int .u8 y, fun _ _ _ _ h => h⟩
end Sc
end Go.Proofs.YtbpgpjibljgiiaaGreatDoor
namespace Go.Proofs.YtbpgpjibljgiiaaGreatDoor
open Go.RowKit
set_option linter.unusedVariables false
set_option linter.unusedSimpArgs false
attribute [local go_sem] Oper.semAt_some
namespace Sc
theorem O8.cells {W : World} {b n c : Nat} (h : O8 W (.slice (some ⟨b, 0, none⟩) n c) n) {k : Nat} (hk : k < n) : n ≤ c ∧ ∃ z, W.cell? ⟨b, k, none⟩ = some (.int .u8 z) ∧ W.frozen? ⟨b, k, none⟩ = false := by
  obtain ⟨b', c', z, he, h1, h2, h3⟩ := h.cell hk
  obtain ⟨e1, -, rfl⟩ := Value.slice.inj he
  simp at e1
  subst e1
  exact ⟨h1, z, h2, h3⟩
set_option maxRecDepth 100000 in
set_option maxHeartbeats 16000000 in
theorem spoilt_any (w1 w : World) (n0 : Nat) (v : Value) (C : List (St × Value)) (hv : StepsV w1 n0 v C) (hf : Fr [] w1 w) (hs : ∀ x ∈ C, x.1.by'.length ≤ 4194304) (hn : C.length ≤ 65536) :
    Calls Tryz.prog 9 #[v] w fun e w' => e = .returned (.tuple #[]) ∧ Fr (bw n0 w1.heap.size) w w' := by
  have h0 := SpI.start hv hf
  obtain ⟨n1, hn1⟩ : ∃ n1, n1 = w1.heap.size := ⟨_, rfl⟩
  rw [← hn1] at h0 ⊢
  obtain ⟨p, c, rfl⟩ := own_form hv.own
  obtain ⟨N, hN⟩ : ∃ N, N = C.length := ⟨_, rfl⟩
  have HN := Lib.hid hN
  rw [← hN] at h0 ⊢
  have HS := Lib.hid (And.intro hs hn)
  have H0 := Lib.hid h0
  have kN : (N : Int) ≤ 65536 := by omega
  clear hv hf hs hn hN h0 hn1
  go_enter Tryz.func9, Tryz.ntmps9
  go_wp2_with fail
  go_loopw [2] (fun iv wr => ∃ i : Nat, iv = .int .i64 i ∧ i ≤ N ∧ SpI w (bw n0 n1) (.slice p N c) C i wr) (fun iv _ => N - (match iv with | .int _ q => q.toNat | _ => 0))
  case atStart => exact ⟨0, rfl, Nat.zero_le _, H0.out⟩
  case round =>
    obtain ⟨i, rfl, hi, hI⟩ := hrel
    obtain ⟨wi, hwi⟩ : ∃ wi : World, wi = wr := ⟨_, rfl⟩
    rw [← hwi] at hI ⊢
    clear hwi
    have HI := Lib.hid (And.intro hi hI)
    have ki0 : (0 : Int) ≤ (i : Int) := by omega
    have kiN : (i : Int) ≤ (N : Int) := by omega
    clear hi hI
    by_cases hlt : i < N
    · have d1 : (i : Int) < (N : Int) := by omega
      obtain ⟨x, hx⟩ : ∃ x, C[i]? = some x := ⟨_, List.getElem?_eq_getElem (by have := HN.out; omega)⟩
      have HX := Lib.hid hx
      have HLT := Lib.hid hlt
      obtain ⟨g, c', he, hcap, -⟩ := HI.out.2.cell hx
      obtain ⟨rfl, -, rfl⟩ := Value.slice.inj he
      have kc : (N : Int) ≤ (c : Int) := by have := HN.out; omega
      obtain ⟨st, bv⟩ := x
      obtain ⟨bp, bc, hbe⟩ := (HI.out.2.by8 i _ (Nat.le_refl _) hx).form
      obtain ⟨n, hnn⟩ : ∃ n, n = st.by'.length := ⟨_, rfl⟩
      replace hbe : bv = .slice bp n bc := by rw [hnn]; exact hbe
      subst hbe
      have HNN := Lib.hid (And.intro hnn (show n ≤ 4194304 by rw [hnn]; exact HS.out.1 _ (List.mem_of_getElem? hx)))
      have kn4 : (n : Int) ≤ 4194304 := by have := HNN.out.2; omega
      clear hx he hcap hnn hlt
      go_wp2_with fail
      go_loopw [3] (fun kv wr => ∃ k : Nat, kv = .int .i64 k ∧ k ≤ n ∧ SpI w (bw n0 n1) (.slice (some ⟨g, 0, none⟩) N c) C i wr) (fun kv _ => n - (match kv with | .int _ q => q.toNat | _ => 0))
      case atStart => exact ⟨0, rfl, Nat.zero_le _, HI.out.2⟩
      case round =>
        obtain ⟨k, rfl, hk, hK⟩ := hrel
        obtain ⟨wj, hwj⟩ : ∃ wj : World, wj = wr := ⟨_, rfl⟩
        rw [← hwj] at hK ⊢
        clear hwj
        have HJ := Lib.hid (And.intro hK hk)
        have kk0 : (0 : Int) ≤ (k : Int) := by omega
        have kk1 : (k : Int) ≤ (n : Int) := by omega
        have hc4 : ∀ W, Fr [] wj W → W.cell? ⟨g, i * 5 + 4, none⟩ = some (.slice bp n bc) := fun W f => by
          obtain ⟨g', c', he, -, h4⟩ := (hK.grow f).cell HX.out
          obtain ⟨e1, -, -⟩ := Value.slice.inj he
          simp at e1
          subst e1
          exact h4
        have c4 := hc4 wj (Fr.refl _ _)
        have HC4 := Lib.hid hc4
        clear hK hk hc4
        by_cases hkn : k < n
        · have d3 : (k : Int) < (n : Int) := by omega
          have HKN := Lib.hid hkn
          obtain ⟨b, bc', z0, he, -, -, -⟩ := (HJ.out.1.by8 i _ (Nat.le_refl _) HX.out).cell (k := k) (by have := HNN.out.1; show k < st.by'.length; omega)
          obtain ⟨rfl, -, -⟩ := Value.slice.inj he
          have hO : ∀ W, Fr [] wj W → O8 W (.slice (some ⟨b, 0, none⟩) n bc) n := fun W f => by
            have := (HJ.out.1.by8 i _ (Nat.le_refl _) HX.out).fr f (by simp)
            rw [HNN.out.1]
            rw [HNN.out.1] at this
            exact this
          obtain ⟨kbc, z, hz, -⟩ := (hO wj (Fr.refl _ _)).cells hkn
          have k2 : (n : Int) ≤ (bc : Int) := by omega
          have HCB := Lib.hid (show ∀ W, Fr [] wj W → W.cell? ⟨b, k, none⟩ = some (.int .u8 z) from fun W f => (f.cell (World.block_lt_of_cell? wj _ hz) (by simp)).trans hz)
          have HFB := Lib.hid (show ∀ W, Fr [] wj W → W.frozen? ⟨b, k, none⟩ = false from fun W f => by obtain ⟨_, _, _, h⟩ := (hO W f).cells hkn; exact h)
          clear he hO kbc hz hkn
          go_wp2_with fail
          refine region_tail (by kernel_rfl) (by kernel_rfl) [[], [], [0, 1], [0, 1, 2], [0, 1, 2, 3], [], [], [], [6, 7], [6, 7, 8], [6, 7, 8, 9], [], [6, 7, 8, 9, 10, 11], [6, 7, 8, 9, 10, 11, 12], [6, 7, 8, 9, 10, 11, 12, 13], [0, 1, 2, 3, 4, 5, 6, 7, 8, 9, 10, 11, 12, 13, 14], [0, 1, 2, 3, 4, 5, 6, 7, 8, 9, 10, 11, 12, 13, 14, 15]] (by kernel_rfl) 16 (by decide) (by kernel_rfl) [.is (.slice (some ⟨g, 0, none⟩) N c), .is (.int .i64 i), .is (.pointer (some ⟨g, i * 5, none⟩)), .is (.pointer (some ⟨g, i * 5 + 4, none⟩)), .is (.slice (some ⟨b, 0, none⟩) n bc), .is (.int .i64 k), .is (.slice (some ⟨g, 0, none⟩) N c), .is (.int .i64 i), .is (.pointer (some ⟨g, i * 5, none⟩)), .is (.pointer (some ⟨g, i * 5 + 4, none⟩)), .is (.slice (some ⟨b, 0, none⟩) n bc), .is (.int .i64 k), .is (.pointer (some ⟨b, k, none⟩)), .is (.int .u8 z), Sc.Stab.u8, .is (.pointer (some ⟨b, k, none⟩))] 65 rfl (by kernel_rfl) ?_ ?_
          · intro q a1 W1 i hi hnq hd hG K hK
            have hlt : i < 16 := hi
            have hc : i = 0 ∨ i = 1 ∨ i = 2 ∨ i = 3 ∨ i = 4 ∨ i = 5 ∨ i = 6 ∨ i = 7 ∨ i = 8 ∨ i = 9 ∨ i = 10 ∨ i = 11 ∨ i = 12 ∨ i = 13 ∨ i = 14 ∨ i = 15 := by omega
            rcases hc with rfl | rfl | rfl | rfl | rfl | rfl | rfl | rfl | rfl | rfl | rfl | rfl | rfl | rfl | rfl | rfl
            · have e0 := hG.old 0 (by kernel_rfl)
              refine op_do rfl (wanted_none rfl) hK (fun K' hK' => ?_)
              unfold Oper.wp
              go_simp
              exact hK' _ _ (Fr.refl _ _) rfl
            · have e2 := hG.old 2 (by kernel_rfl)
              refine op_do rfl (wanted_none rfl) hK (fun K' hK' => ?_)
              unfold Oper.wp
              go_simp
              exact hK' _ _ (Fr.refl _ _) rfl
            · have e22 := hG.val (v := .slice (some ⟨g, 0, none⟩) N c) 0 22 (hd _ rfl ⟨0, .data⟩ (by simp) rfl) rfl rfl
              have e23 := hG.val (v := .int .i64 i) 1 23 (hd _ rfl ⟨1, .data⟩ (by simp) rfl) rfl rfl
              refine op_do rfl (wanted_none rfl) hK (fun K' hK' => ?_)
              unfold Oper.wp
              go_simp
              exact hK' _ _ (Fr.refl _ _) rfl
            · have e24 := hG.val (v := .pointer (some ⟨g, i * 5, none⟩)) 2 24 (hd _ rfl ⟨2, .data⟩ (by simp) rfl) rfl rfl
              refine op_do rfl (wanted_none rfl) hK (fun K' hK' => ?_)
              unfold Oper.wp
              go_simp
              exact hK' _ _ (Fr.refl _ _) rfl
            · have e25 := hG.val (v := .pointer (some ⟨g, i * 5 + 4, none⟩)) 3 25 (hd _ rfl ⟨3, .data⟩ (by simp) rfl) rfl rfl
              have c4 := HC4.out W1 hG.grown
              refine op_do rfl (wanted_none rfl) hK (fun K' hK' => ?_)
              unfold Oper.wp
              go_simp
              exact hK' _ _ (Fr.refl _ _) rfl
            · have e3 := hG.old 3 (by kernel_rfl)
              refine op_do rfl (wanted_none rfl) hK (fun K' hK' => ?_)
              unfold Oper.wp
              go_simp
              exact hK' _ _ (Fr.refl _ _) rfl
            · have e0 := hG.old 0 (by kernel_rfl)
              refine op_do rfl (wanted_none rfl) hK (fun K' hK' => ?_)
              unfold Oper.wp
              go_simp
              exact hK' _ _ (Fr.refl _ _) rfl
            · have e2 := hG.old 2 (by kernel_rfl)
              refine op_do rfl (wanted_none rfl) hK (fun K' hK' => ?_)
              unfold Oper.wp
              go_simp
              exact hK' _ _ (Fr.refl _ _) rfl
            · have e28 := hG.val (v := .slice (some ⟨g, 0, none⟩) N c) 6 28 (hd _ rfl ⟨6, .data⟩ (by simp) rfl) rfl rfl
              have e29 := hG.val (v := .int .i64 i) 7 29 (hd _ rfl ⟨7, .data⟩ (by simp) rfl) rfl rfl
              refine op_do rfl (wanted_none rfl) hK (fun K' hK' => ?_)
              unfold Oper.wp
              go_simp
              exact hK' _ _ (Fr.refl _ _) rfl
            · have e30 := hG.val (v := .pointer (some ⟨g, i * 5, none⟩)) 8 30 (hd _ rfl ⟨8, .data⟩ (by simp) rfl) rfl rfl
              refine op_do rfl (wanted_none rfl) hK (fun K' hK' => ?_)
              unfold Oper.wp
              go_simp
              exact hK' _ _ (Fr.refl _ _) rfl
            · have e31 := hG.val (v := .pointer (some ⟨g, i * 5 + 4, none⟩)) 9 31 (hd _ rfl ⟨9, .data⟩ (by simp) rfl) rfl rfl
              have c4 := HC4.out W1 hG.grown
              refine op_do rfl (wanted_none rfl) hK (fun K' hK' => ?_)
              unfold Oper.wp
              go_simp
              exact hK' _ _ (Fr.refl _ _) rfl
            · have e3 := hG.old 3 (by kernel_rfl)
              refine op_do rfl (wanted_none rfl) hK (fun K' hK' => ?_)
              unfold Oper.wp
              go_simp
              exact hK' _ _ (Fr.refl _ _) rfl
            · have e32 := hG.val (v := .slice (some ⟨b, 0, none⟩) n bc) 10 32 (hd _ rfl ⟨10, .data⟩ (by simp) rfl) rfl rfl
              have e33 := hG.val (v := .int .i64 k) 11 33 (hd _ rfl ⟨11, .data⟩ (by simp) rfl) rfl rfl
              refine op_do rfl (wanted_none rfl) hK (fun K' hK' => ?_)
              unfold Oper.wp
              go_simp
              exact hK' _ _ (Fr.refl _ _) rfl
            · have e34 := hG.val (v := .pointer (some ⟨b, k, none⟩)) 12 34 (hd _ rfl ⟨12, .data⟩ (by simp) rfl) rfl rfl
              have cb := HCB.out W1 hG.grown
              refine op_do rfl (wanted_none rfl) hK (fun K' hK' => ?_)
              unfold Oper.wp
              go_simp
              exact hK' _ _ (Fr.refl _ _) rfl
            · have e35 := hG.val (v := .int .u8 z) 13 35 (hd _ rfl ⟨13, .data⟩ (by simp) rfl) rfl rfl
              refine op_do rfl (wanted_none rfl) hK (fun K' hK' => ?_)
              unfold Oper.wp
              go_simp
              exact hK' _ _ (Fr.refl _ _) ⟨_, rfl⟩
            · have e26 := hG.val (v := .slice (some ⟨b, 0, none⟩) n bc) 4 26 (hd _ rfl ⟨4, .data⟩ (by simp) rfl) rfl rfl
              have e27 := hG.val (v := .int .i64 k) 5 27 (hd _ rfl ⟨5, .data⟩ (by simp) rfl) rfl rfl
              refine op_do rfl (wanted_none rfl) hK (fun K' hK' => ?_)
              unfold Oper.wp
              go_simp
              exact hK' _ _ (Fr.refl _ _) rfl
          · intro q a1 W1 hq hG
            have f1 := hG.grown
            obtain ⟨vs, hv, rfl⟩ := hG.front 65 rfl (by kernel_rfl) (by decide) hq [(0, 22), (1, 23), (2, 24), (3, 25), (4, 26), (5, 27), (6, 28), (7, 29), (8, 30), (9, 31), (10, 32), (11, 33), (12, 34), (13, 35), (14, 36), (15, 37)] (by kernel_rfl)
            clear hG hq
            have r0 : vs 0 = .slice (some ⟨g, 0, none⟩) N c := hv 0 22 (by decide) rfl
            have r1 : vs 1 = .int .i64 i := hv 1 23 (by decide) rfl
            have r2 : vs 2 = .pointer (some ⟨g, i * 5, none⟩) := hv 2 24 (by decide) rfl
            have r3 : vs 3 = .pointer (some ⟨g, i * 5 + 4, none⟩) := hv 3 25 (by decide) rfl
            have r4 : vs 4 = .slice (some ⟨b, 0, none⟩) n bc := hv 4 26 (by decide) rfl
            have r5 : vs 5 = .int .i64 k := hv 5 27 (by decide) rfl
            have r6 : vs 6 = .slice (some ⟨g, 0, none⟩) N c := hv 6 28 (by decide) rfl
            have r7 : vs 7 = .int .i64 i := hv 7 29 (by decide) rfl
            have r8 : vs 8 = .pointer (some ⟨g, i * 5, none⟩) := hv 8 30 (by decide) rfl
            have r9 : vs 9 = .pointer (some ⟨g, i * 5 + 4, none⟩) := hv 9 31 (by decide) rfl
            have r10 : vs 10 = .slice (some ⟨b, 0, none⟩) n bc := hv 10 32 (by decide) rfl
            have r11 : vs 11 = .int .i64 k := hv 11 33 (by decide) rfl
            have r12 : vs 12 = .pointer (some ⟨b, k, none⟩) := hv 12 34 (by decide) rfl
            have r13 : vs 13 = .int .u8 z := hv 13 35 (by decide) rfl
            have r14 := hv 14 36 (by decide) rfl
            have r15 : vs 15 = .pointer (some ⟨b, k, none⟩) := hv 15 37 (by decide) rfl
            simp only [List.drop_succ_cons, List.drop_zero, lay, List.foldl_cons, List.foldl_nil, r0, r1, r2, r3, r4, r5, r6, r7, r8, r9, r10, r11, r12, r13, r15]
            simp only [List.setIfInBounds_toArray, List.set_cons_zero, List.set_cons_succ]
            clear hv r0 r1 r2 r3 r4 r5 r6 r7 r8 r9 r10 r11 r12 r13 r15
            generalize vs 14 = x14 at *
            clear vs
            obtain ⟨y, rfl⟩ := r14
            have HJ1 := Lib.hid (HJ.out.1.grow f1)
            have cb := HCB.out W1 f1
            have gb := HFB.out W1 f1
            obtain ⟨w5, hw5⟩ : ∃ w5, W1.setCell ⟨b, k, none⟩ (.int .u8 y) = w5 := ⟨_, rfl⟩
            have HI5 := Lib.hid (show SpI w (bw n0 n1) (.slice (some ⟨g, 0, none⟩) N c) C i w5 by rw [← hw5]; exact HJ1.out.set HX.out rfl k y)
            have HW5 := Lib.hid hw5
            clear hw5 f1
            go_upto_region 5 with fail
            rw [HW5.out]
            clear cb gb
            go_wp2
            exact ⟨⟨k + 1, rfl, HKN.out, HI5.out⟩, by have := HKN.out; show (n : Nat) - ((k : Int) + 1).toNat < n - ((k : Nat) : Int).toNat; omega⟩
        · obtain rfl : k = n := by have := HJ.out.2; omega
          have d3 : ¬ ((k : Int) < (k : Int)) := by omega
          clear hkn
          have HJ0 := Lib.hid (show SpJ w (bw n0 n1) (.slice (some ⟨g, 0, none⟩) N c) C i wj (.slice bp k bc) k from by
            have := HJ.out.1.toJ HX.out
            have e := HNN.out.1
            rw [e]
            rw [e] at this
            exact this)
          go_wp2_with fail
          clear c4
          go_loopw [4] (fun mv wr => ∃ (m : Nat) (u : Value), mv = .int .i64 m ∧ m ≤ 16 ∧ SpJ w (bw n0 n1) (.slice (some ⟨g, 0, none⟩) N c) C i wr u (k + m)) (fun mv _ => 16 - (match mv with | .int _ q => q.toNat | _ => 0))
          case atStart => exact ⟨0, _, rfl, Nat.zero_le _, HJ0.out⟩
          case round =>
            obtain ⟨m, u, rfl, hm, hM⟩ := hrel
            obtain ⟨wk, hwk⟩ : ∃ wk : World, wk = wr := ⟨_, rfl⟩
            rw [← hwk] at hM ⊢
            clear hwk
            have km0 : (0 : Int) ≤ (m : Int) := by omega
            have km1 : (m : Int) ≤ 16 := by omega
            have HM := Lib.hid (And.intro hM hm)
            have hiC : i < C.length := by have := HN.out; have := HLT.out; omega
            clear hM hm
            by_cases hm16 : m < 16
            · have d4 : (m : Int) < 16 := by omega
              have HM16 := Lib.hid hm16
              obtain ⟨g', c', cur', he, -, c4, hbk, hcs⟩ := HM.out.1.cell hiC
              obtain ⟨e1, -, e2⟩ := Value.slice.inj he
              simp at e1
              subst e1 e2
              obtain ⟨up, uc, rfl⟩ := HM.out.1.own.form
              have HA1 := Lib.hid (HM.out.1.grow ((Fr.refl [] wk).alloc (.cells #[.int .u8 119] 5)))
              have HNW := Lib.hid (new_list wk [.int .u8 119] 5 _ rfl)
              have HIC := Lib.hid hiC
              clear he hbk hcs hm16 hiC
              go_wp2_with (at_builtin; go_must (refine wpList_app8 HA1.out.own (by have := HNN.out.2; have := HM.out.2; omega) rfl _ _ rfl rfl ⟨wk.heap.size, 0, none⟩ 1 119 rfl HNW.out ?_; intro u1 w3 a1 a2 a3 a4; obtain ⟨g2, c2, cur2, he2, hb2, hz2, hc2, hj2⟩ := HA1.out.mid HIC.out a1 a2 a3 a4; obtain ⟨e3, -, e4⟩ := Value.slice.inj he2; simp at e3; subst e3 e4; obtain ⟨p1, c1, rfl⟩ := a1.form; obtain ⟨y2, hy2⟩ : ∃ y2, cur2[i * 5 + 4]? = some y2 := ⟨_, Array.getElem?_eq_getElem (by have := HIC.out; omega)⟩; have hin := hb2.at (i * 5 + 4) hy2; clear hy2; have hnf := hb2.free (i * 5 + 4); have HJ2 := Lib.hid hj2; clear he2 hj2 hb2 hz2 hc2 a1 a2 a3 a4))
              exact ⟨⟨m + 1, _, rfl, HM16.out, HJ2.out⟩, by have := HM16.out; show 16 - ((m : Int) + 1).toNat < 16 - ((m : Nat) : Int).toNat; omega⟩
            · obtain rfl : m = 16 := by have := HM.out.2; omega
              have d4 : ¬ ((16 : Int) < 16) := by omega
              obtain ⟨g', c', cur', he, hb2, hz2, hc2, hj2⟩ := HM.out.1.lane hiC (.int .i64 (-9))
              obtain ⟨e1, -, e2⟩ := Value.slice.inj he
              simp at e1
              subst e1 e2
              obtain ⟨y2, hy2⟩ : ∃ y2, cur'[i * 5 + 1]? = some y2 := ⟨_, Array.getElem?_eq_getElem (by omega)⟩
              have hin := hb2.at (i * 5 + 1) hy2
              have hnf := hb2.free (i * 5 + 1)
              obtain ⟨w5, hw5⟩ : ∃ w5, wk.setCell ⟨g, i * 5 + 1, none⟩ (.int .i64 (-9)) = w5 := ⟨_, rfl⟩
              rw [hw5] at hj2
              have HJ2 := Lib.hid hj2
              have HW5 := Lib.hid hw5
              clear hm16 he hy2 hz2 hc2 hj2 hw5 hb2 hiC
              go_upto_region 2 with fail
              rw [HW5.out]
              clear hin hnf
              go_wp2
              exact ⟨⟨i + 1, rfl, HLT.out, HJ2.out⟩, by have := HLT.out; show (N : Nat) - ((i : Int) + 1).toNat < N - ((i : Nat) : Int).toNat; omega⟩
    · obtain rfl : i = N := by have := HI.out.1; omega
      have d1 : ¬ ((i : Int) < (i : Int)) := by omega
      clear hlt
      obtain ⟨xs, hr, -⟩ := HI.out.2.row
      have HR := Lib.hid (show wi.ownsRow 0 64 5 (.slice p i c) (i + 0) xs by have := hr; rw [← HN.out] at this; exact this)
      clear hr
      go_wp2_with fail
      go_loopw [5, 0] (fun kv lv wr => ∃ (k : Nat) (xs : List Value), kv = .int .i64 k ∧ k ≤ 16 ∧ wr.ownsRow 0 64 5 lv (i + k) xs ∧ (∀ b, lv.ownBlock = some b → b ∈ bw n0 n1 ∨ w.heap.size ≤ b) ∧ Fr (bw n0 n1) w wr) (fun kv _ _ => 16 - (match kv with | .int _ q => q.toNat | _ => 0))
      case atStart => exact ⟨0, _, rfl, Nat.zero_le _, HR.out, HI.out.2.at', HI.out.2.fr⟩
      case round =>
        obtain ⟨k, xs, rfl, hk, hown, hpl, hfr⟩ := hrel
        obtain ⟨wj, hwj⟩ : ∃ wj : World, wj = wr := ⟨_, rfl⟩
        rw [← hwj] at hown hfr ⊢
        clear hwj
        obtain ⟨lp, lc, rfl⟩ := own_form hown
        have HK := Lib.hid (And.intro hk (And.intro hown (And.intro hpl hfr)))
        have kk0 : (0 : Int) ≤ (k : Int) := by omega
        have kk1 : (k : Int) ≤ 16 := by omega
        clear hk hown hpl hfr
        by_cases hk16 : k < 16
        · have d2 : (k : Int) < 16 := by omega
          have HK16 := Lib.hid hk16
          have HOW := Lib.hid (own_fr HK.out.2.1 ((Fr.refl [] wj).alloc (.cells #[.int .u8 0, .int .i64 0, .int .i64 7, .int .i64 0, .slice none 0 0] 64)) (by simp))
          have HNW := Lib.hid (new_list wj [.int .u8 0, .int .i64 0, .int .i64 7, .int .i64 0, .slice none 0 0] 64 _ rfl)
          clear hk16
          go_wp2_with (at_builtin; go_must (refine wpList_app _ rfl _ _ 24 rfl 64 zeroStep 5 56 Tryz.underlying24 infoSt rfl (by decide) (.slice lp (i + k) lc) (i + k) xs rfl HOW.out ⟨wj.heap.size, 0, none⟩ 1 1 [.int .u8 0, .int .i64 0, .int .i64 7, .int .i64 0, .slice none 0 0] rfl rfl HNW.out (by simp [Value.oneCell']) (by unfold maxLen; have := HK16.out; have := HS.out.2; have := HN.out; omega) (by have := HK16.out; have := HS.out.2; have := HN.out; omega) ?_); intro v1 w3 happ; have HAP := Lib.hid happ; clear happ)
          refine ⟨⟨k + 1, _, rfl, HK16.out, HAP.out.own, fun b hb => ?_, ?_⟩, by have := HK16.out; show 16 - ((k : Int) + 1).toNat < 16 - ((k : Nat) : Int).toNat; omega⟩
          · rcases HAP.out.place with q | q
            · exact HK.out.2.2.1 b (by rw [← q]; exact hb)
            · rw [q] at hb
              cases hb
              have := HK.out.2.2.2.size
              right
              simp
              omega
          · exact (HK.out.2.2.2.alloc _).trans HAP.out.fr (fun x hx => HK.out.2.2.1 x (by simpa using hx) |>.imp id id)
        · obtain rfl : k = 16 := by have := HK.out.1; omega
          have d2 : ¬ ((16 : Int) < 16) := by omega
          clear hk16
          go_wp2
          go_end0
          exact ⟨rfl, HK.out.2.2.2⟩
end Sc
end Go.Proofs.YtbpgpjibljgiiaaGreatDoor
