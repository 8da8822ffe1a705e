/-
  A small vocabulary for blocks of the heap and for what a call leaves as it was. No statement about the program stands here.
-/
import Derived.WalkKit
import Derived.WalkSpells
import Derived.WalkLawsBesides
import Derived.Lib.Hide
import Derived.OwnWalkIn
import Derived.Laws.CopyOwn
import Derived.BigQuiet
import Derived.Deep.QuietTactic
namespace Go.Proofs.YtbpgpjibljgiiaaDoor
open Go.RowKit

/-- Block b holds just these cells. -/
def Blk (w : World) (b : Nat) (c : Array Value) (e : TypeId) : Prop := w.heap[b]? = some (.cells c e (0, 0))

theorem Blk.lt {w : World} {b : Nat} {c : Array Value} {e : TypeId} (h : Blk w b c e) : b < w.heap.size := (Array.getElem?_eq_some_iff.1 h).1
theorem Blk.at {w : World} {b : Nat} {c : Array Value} {e : TypeId} (h : Blk w b c e) (i : Nat) {v : Value} (hv : c[i]? = some v) : w.cell? ⟨b, i, none⟩ = some v := by
  simp [World.cell?, show w.heap[b]? = _ from h, hv]
theorem Blk.free {w : World} {b : Nat} {c : Array Value} {e : TypeId} (h : Blk w b c e) (i : Nat) : w.frozen? ⟨b, i, none⟩ = false := by
  simp [World.frozen?, show w.heap[b]? = _ from h]
theorem Blk.new (w : World) (c : Array Value) (e : TypeId) : Blk (w.alloc (.cells c e)) w.heap.size c e := heap_alloc_new w _
theorem Blk.new_at {w : World} {k : Nat} (hk : k = w.heap.size) (c : Array Value) (e : TypeId) : Blk (w.alloc (.cells c e)) k c e := by
  subst hk; exact Blk.new w c e
theorem Blk.alloc {w : World} {b : Nat} {c : Array Value} {e : TypeId} (h : Blk w b c e) (o : Obj) : Blk (w.alloc o) b c e :=
  (Below.heap_alloc w o b h.lt).trans h
theorem Blk.drew {w : World} {b : Nat} {c : Array Value} {e : TypeId} (h : Blk w b c e) : Blk w.drew b c e := h
theorem Blk.drewN {w : World} {b : Nat} {c : Array Value} {e : TypeId} (h : Blk w b c e) (n : Nat) : Blk (w.drewN n) b c e := h
theorem Blk.set {w : World} {b : Nat} {c : Array Value} {e : TypeId} (h : Blk w b c e) (i : Nat) (v : Value) : Blk (w.setCell ⟨b, i, none⟩ v) b (c.setIfInBounds i v) e := by
  unfold Blk at h ⊢
  simp [World.setCell, Array.getElem?_modify, h]
theorem Blk.other {w : World} {b : Nat} {c : Array Value} {e : TypeId} (h : Blk w b c e) (a : Addr) (v : Value) (hn : b ≠ a.block) : Blk (w.setCell a v) b c e :=
  (Below.heap_setCell w a v b hn).trans h
theorem Blk.inj {w : World} {b : Nat} {c c' : Array Value} {e e' : TypeId} (h : Blk w b c e) (h' : Blk w b c' e') : c = c' ∧ e = e' := by
  have := h.symm.trans h'; simpa using this
theorem Blk.ne {w : World} {b b' : Nat} {c c' : Array Value} {e e' : TypeId} (h : Blk w b c e) (h' : Blk w b' c' e') (hn : e ≠ e') : b ≠ b' := by
  rintro rfl; exact hn (h.inj h').2

/-- Nothing that was there has turned, but the blocks of S. -/
structure Fr (S : List Nat) (w w' : World) : Prop where
  os : w'.os = w.os
  tape : w'.tape = w.tape
  output : w'.output = w.output
  size : w.heap.size ≤ w'.heap.size
  block : ∀ k, k < w.heap.size → k ∉ S → w'.heap[k]? = w.heap[k]?

theorem Fr.refl (S : List Nat) (w : World) : Fr S w w := ⟨rfl, rfl, rfl, Nat.le_refl _, fun _ _ _ => rfl⟩
theorem Fr.trans {S T : List Nat} {a b c : World} (h : Fr S a b) (k : Fr T b c) (hs : ∀ x ∈ T, x ∈ S ∨ a.heap.size ≤ x) : Fr S a c :=
  ⟨k.os.trans h.os, k.tape.trans h.tape, k.output.trans h.output, Nat.le_trans h.size k.size, fun i hi hn =>
    (k.block i (Nat.lt_of_lt_of_le hi h.size) (fun ht => by rcases hs i ht with h1 | h1; exact hn h1; omega)).trans (h.block i hi hn)⟩
theorem Fr.mono {S T : List Nat} {w w' : World} (h : Fr S w w') (hs : ∀ x ∈ S, x ∈ T ∨ w.heap.size ≤ x) : Fr T w w' :=
  ⟨h.os, h.tape, h.output, h.size, fun k hk hn => h.block k hk (fun hx => by rcases hs k hx with h1 | h1; exact hn h1; omega)⟩
theorem Fr.drew {S : List Nat} {a w : World} (h : Fr S a w) : Fr S a w.drew := ⟨h.os, h.tape, h.output, h.size, h.block⟩
theorem Fr.drewN {S : List Nat} {a w : World} (h : Fr S a w) (n : Nat) : Fr S a (w.drewN n) := ⟨h.os, h.tape, h.output, h.size, h.block⟩
theorem Fr.alloc {S : List Nat} {a w : World} (h : Fr S a w) (o : Obj) : Fr S a (w.alloc o) :=
  ⟨h.os, h.tape, h.output, Nat.le_trans h.size (by simp), fun k hk hn => (Below.heap_alloc w o k (Nat.lt_of_lt_of_le hk h.size)).trans (h.block k hk hn)⟩
theorem Fr.setCell {S : List Nat} {a w : World} (h : Fr S a w) (p : Addr) (v : Value) (hp : p.block ∈ S ∨ a.heap.size ≤ p.block) : Fr S a (w.setCell p v) :=
  ⟨h.os, h.tape, h.output, Nat.le_trans h.size (by simp), fun k hk hn => (Below.heap_setCell w p v k (fun e => by
    subst e; rcases hp with h1 | h1; exact hn h1; omega)).trans (h.block k hk hn)⟩
theorem Fr.grown {S : List Nat} {a w w' : World} {row : Option Nat} (h : Fr S a w) (hg : w.grownBy w' row) (hr : ∀ k, row = some k → k ∈ S ∨ a.heap.size ≤ k) : Fr S a w' :=
  ⟨hg.os.trans h.os, hg.tape.trans h.tape, hg.output.trans h.output, Nat.le_trans h.size hg.size, fun k hk hn =>
    (hg.block k (Nat.lt_of_lt_of_le hk h.size) (fun e => by rcases hr k e.symm with h1 | h1; exact hn h1; omega)).trans (h.block k hk hn)⟩
theorem Fr.below {w w' : World} (h : Fr [] w w') : Below w.heap.size w w' := ⟨h.os, h.tape, h.output, h.size, fun k hk => h.block k hk (by simp)⟩
theorem Fr.of_below {w w' : World} (h : Below w.heap.size w w') (S : List Nat) : Fr S w w' := ⟨h.os, h.tape, h.output, h.size, fun k hk _ => h.block k hk⟩
theorem Fr.below' {S : List Nat} {B : Nat} {w w' : World} (h : Fr S w w') (hB : B ≤ w.heap.size) (hs : ∀ x ∈ S, B ≤ x) : Below B w w' :=
  ⟨h.os, h.tape, h.output, h.size, fun k hk => h.block k (by omega) (fun hx => by have := hs k hx; omega)⟩
theorem Fr.blk {S : List Nat} {w w' : World} (h : Fr S w w') {b : Nat} {c : Array Value} {e : TypeId} (hb : Blk w b c e) (hn : b ∉ S) : Blk w' b c e :=
  (h.block b hb.lt hn).trans hb
theorem Fr.cell {S : List Nat} {w w' : World} (h : Fr S w w') {a : Addr} (ha : a.block < w.heap.size) (hn : a.block ∉ S) : w'.cell? a = w.cell? a :=
  World.cell?_of_block (w := w) (h.block a.block ha hn)
theorem Fr.frozen {S : List Nat} {w w' : World} (h : Fr S w w') {a : Addr} (ha : a.block < w.heap.size) (hn : a.block ∉ S) : w'.frozen? a = w.frozen? a :=
  World.frozen?_of_block (w := w) (h.block a.block ha hn)

theorem drewN_two (w : World) (j k : Nat) : (w.drewN j).drewN k = w.drewN (j + k) := by simp [World.drewN, Nat.add_assoc]
theorem ret_bool {a b : Bool} (h : a = b) : Ending.returned (.bool a) = .returned (.bool b) := by rw [h]
theorem ret_int {k : IntKind} {a b : Int} (h : a = b) : Ending.returned (.int k a) = .returned (.int k b) := by rw [h]

/-- The numbers as values. -/
def ints (xs : List Int) : List Value := xs.map (Value.int .i64)
theorem ints_len (xs : List Int) : (ints xs).length = xs.length := by simp [ints]
theorem ints_one (xs : List Int) : ∀ u ∈ ints xs, u.oneCell' = true := by
  intro u hu; simp only [ints, List.mem_map] at hu; obtain ⟨x, -, rfl⟩ := hu; rfl
theorem ints_at (xs : List Int) (j : Nat) (u : Value) (h : (ints xs)[j]? = some u) : (ints xs).toArray[j]? = some u := by simpa using h
theorem Blk.ints {w : World} {b : Nat} {xs : List Int} {e : TypeId} (h : Blk w b (ints xs).toArray e) : ∀ j u, (ints xs)[j]? = some u → w.cell? ((⟨b, 0, none⟩ : Addr).add j) = some u := by
  intro j u hu
  have := h.at j (ints_at xs j u hu)
  rw [Addr.add_lit]
  simpa using this
theorem Blk.int {w : World} {b : Nat} {xs : List Int} {e : TypeId} (h : Blk w b (Go.Proofs.YtbpgpjibljgiiaaDoor.ints xs).toArray e) {k : Nat} (hk : k < xs.length) : w.cell? ⟨b, k, none⟩ = some (.int .i64 (xs.getD k 0)) :=
  h.at k (by simp [Go.Proofs.YtbpgpjibljgiiaaDoor.ints, List.getD_eq_getElem?_getD, hk])
theorem ints_set (xs : List Int) (k : Nat) (v : Int) : (ints xs).toArray.setIfInBounds k (.int .i64 v) = (ints (xs.set k v)).toArray := by
  simp [ints, List.map_set]

/-- A slice that reads as these numbers, nil or not. -/
def RdInts (w : World) (v : Value) (xs : List Int) : Prop :=
  ∃ p cap, v = .slice p xs.length cap ∧ xs.length ≤ cap ∧ (xs.length = 0 ∨ ∃ g o, p = some ⟨g, o, none⟩ ∧ ∀ k, k < xs.length → w.cell? ⟨g, o + k, none⟩ = some (.int .i64 (xs.getD k 0)))
theorem RdInts.of_own {w : World} {base e n : Nat} {v : Value} {xs : List Int} (h : w.ownsRow base e 1 v n (ints xs)) : RdInts w v xs := by
  have hl : xs.length = n := by have := h.1; simpa [ints_len] using this
  rcases h.2 with ⟨rfl, rfl⟩ | ⟨g, cap, cur, rfl, _, hg, hnc, _, _, _⟩
  · exact ⟨none, 0, by rw [hl], by omega, .inl hl⟩
  · refine ⟨_, cap, by rw [hl], by omega, .inr ⟨g, 0, rfl, fun k hk => ?_⟩⟩
    have := h.cells (g := g) rfl k (.int .i64 (xs.getD k 0)) (by simp [ints, List.getD_eq_getElem?_getD, hk])
    rw [Addr.add_lit] at this
    exact this
theorem RdInts.nil (w : World) : RdInts w (.slice none 0 0) [] := ⟨none, 0, rfl, Nat.le_refl _, .inl rfl⟩
/-- It reads on wherever its block lies as it lay. -/
theorem RdInts.kept {w w' : World} {v : Value} {xs : List Int} (h : RdInts w v xs) (hk : ∀ g o n c, v = .slice (some ⟨g, o, none⟩) n c → w'.heap[g]? = w.heap[g]?) : RdInts w' v xs := by
  obtain ⟨p, cap, rfl, hc, h0⟩ := h
  refine ⟨p, cap, rfl, hc, ?_⟩
  rcases h0 with h0 | ⟨g, o, rfl, h0⟩
  · exact .inl h0
  · exact .inr ⟨g, o, rfl, fun k hk' => (World.cell?_of_block (w := w) (hk g o _ _ rfl)).trans (h0 k hk')⟩

/-! ### append, and where the result lies -/
section
variable {P : Program}
theorem run_app_where (w : World) (t ty e : TypeId) (i : TypeInfo) (z : Value) (size bytes : Nat) (ht : P.underlying t = some (.slice e)) (hi : P.info? e = some i) (hz : i.zero = some z)
    (hsize : i.size = size) (hby : i.bytes = bytes)
    (v : Value) (n : Nat) (xs : List Value) (hown : w.ownsRow 0 e size v n xs)
    (a : Addr) (m c : Nat) (news : List Value) (hl : news.length = m * size) (hnews : ∀ j u, news[j]? = some u → w.cell? (a.add j) = some u) (h1 : ∀ u ∈ news, u.oneCell' = true)
    (h63 : n + m ≤ maxLen) (hbytes : (n + m) * bytes ≤ 140737488355328) (v' : Value) (w' : World) (hr : (Builtin.append_ #[t, t] ty #[v, .slice (some a) m c]).run P w = .ok v' w') :
    v'.ownBlock = v.ownBlock ∨ v'.ownBlock = some w.heap.size := by
  subst hsize
  subst hby
  have hsmall : n + m ≤ 9223372036854775807 := by simp only [maxLen] at h63; omega
  rcases hown.2 with ⟨rfl, rfl⟩ | ⟨g, cap, cur, rfl, hbg, hg, hnc, hcm, hcs, htake⟩
  · by_cases hm : m = 0
    · subst hm
      simp [Builtin.append_, run_underlying ht, sizeOf, typeInfo, hi, Builtin.lenOf, Builtin.firstCells, loadCells, loadCellsFrom] at hr
      exact .inl (by rw [← hr.1])
    · have hr' := run_append_nil (P := P) w t ty e i z ht hi hz a m c news hl hnews (by omega) (by omega) (by have hb := hbytes; simp only [Nat.zero_add] at hb; omega)
      rw [hr] at hr'
      simp only [Result.ok.injEq] at hr'
      exact .inr (by rw [hr'.1]; rfl)
  · by_cases hroom : n + m ≤ cap
    · have hfit : n * i.size + news.length ≤ cur.size := by rw [hl, hcs, ← Nat.add_mul]; exact Nat.mul_le_mul_right _ hroom
      have hr' := run_append_room (P := P) w t ty e i ht hi g n cap cur hg a m c news hl hnews h1 hroom hfit
      rw [hr] at hr'
      simp only [Result.ok.injEq] at hr'
      exact .inl (by rw [hr'.1]; rfl)
    · have holds : ∀ j u, xs[j]? = some u → w.cell? ((⟨g, 0, none⟩ : Addr).add j) = some u := hown.cells (g := g) rfl
      have hr' := run_append_grow (P := P) w t ty e i z ht hi hz ⟨g, 0, none⟩ n cap xs hown.1 holds a m c news hl hnews (by omega) (by omega) (growslice_fits (by omega) hbytes)
      rw [hr] at hr'
      simp only [Result.ok.injEq] at hr'
      exact .inr (by rw [hr'.1]; rfl)

/-- What append does to a slice that owns its row. -/
structure Appended (w : World) (e : TypeId) (size : Nat) (v : Value) (k : Nat) (xs : List Value) (v' : Value) (w' : World) : Prop where
  own : w'.ownsRow 0 e size v' k xs
  grown : w.grownBy w' v.ownBlock
  place : v'.ownBlock = v.ownBlock ∨ v'.ownBlock = some w.heap.size

theorem wpList_app (w : World) {ops : Array Oper} {rest : List Oper} {o : Oper} {a : Act} {Q : Exit → Act → World → Prop}
    (hg : o.guard = none) (s x : Operand) (t : TypeId) (hop : o.op = Op.call { callee := Callee.builtin Builtin.append, args := #[s, x], argTypes := #[t, t] })
    (e : TypeId) (z : Value) (size bytes : Nat) (h1 : P.underlying t = some (.slice e)) (h2 : (P.info? e).map (fun i => (i.zero, i.size, i.bytes)) = some (some z, size, bytes)) (h6 : z.cells.size = size) (h7 : 0 < size)
    (v : Value) (k : Nat) (xs : List Value) (hs : a.eval s = v) (hown : w.ownsRow 0 e size v k xs) (ad : Addr) (m c : Nat) (news : List Value) (hx : a.eval x = .slice (some ad) m c) (hn : news.length = m * size)
    (hc : ∀ j u, news[j]? = some u → w.cell? (ad.add j) = some u) (h1c : ∀ u ∈ news, u.oneCell' = true) (b1 : k + m ≤ maxLen) (b2 : (k + m) * bytes ≤ 140737488355328)
    (hK : ∀ v' w', Appended w e size v (k + m) (xs ++ news) v' w' → wpList P ops Q rest (a.put o.dst v') w') :
    wpList P ops Q (o :: rest) a w := by
  obtain ⟨i, hi, hz, hsz, hby⟩ := info_parts h2
  refine wpList_plain hg fun K hK' => ?_
  obtain ⟨v', w', hrun, r1, r2, -⟩ := run_append_own (P := P) w 0 t o.type e i z size bytes h1 hi hz hsz hby h6 h7 v k xs hown ad m c news hn hc h1c b1 b2 (Nat.zero_le _)
  have r4 := run_app_where w t o.type e i z size bytes h1 hi hz hsz hby v k xs hown ad m c news hn hc h1c b1 b2 v' w' hrun
  unfold Oper.wp execOp
  simp only [hop, resolve, invoke, builtin, Sem.run_bind, Sem.run_pure, Result.andThen_ok, List.map_toArray, List.map_cons, List.map_nil, hs, hx, hrun]
  exact hK' _ _ (hK v' w' ⟨r1, r2, r4⟩)

theorem wpListIn_app {F : Fence} {n : Nat} (w : World) {ops : Array Oper} {rest : List Oper} {o : Oper} {a : Act} {Q : Exit → Act → World → Prop}
    (hg : o.guard = none) (s x : Operand) (t : TypeId) (hop : o.op = Op.call { callee := Callee.builtin Builtin.append, args := #[s, x], argTypes := #[t, t] })
    (e : TypeId) (z : Value) (size bytes : Nat) (h1 : P.underlying t = some (.slice e)) (h2 : (P.info? e).map (fun i => (i.zero, i.size, i.bytes)) = some (some z, size, bytes)) (h6 : z.cells.size = size) (h7 : 0 < size)
    (v : Value) (k : Nat) (xs : List Value) (hs : a.eval s = v) (hown : w.ownsRow 0 e size v k xs) (ad : Addr) (m c : Nat) (news : List Value) (hx : a.eval x = .slice (some ad) m c) (hn : news.length = m * size)
    (hc : ∀ j u, news[j]? = some u → w.cell? (ad.add j) = some u) (h1c : ∀ u ∈ news, u.oneCell' = true) (b1 : k + m ≤ maxLen) (b2 : (k + m) * bytes ≤ 140737488355328)
    (hK : ∀ v' w', Appended w e size v (k + m) (xs ++ news) v' w' → wpListIn F n P ops Q rest (a.put o.dst v') w') :
    wpListIn F n P ops Q (o :: rest) a w := by
  obtain ⟨i, hi, hz, hsz, hby⟩ := info_parts h2
  refine wpListIn_plain hg fun K hK' => ?_
  obtain ⟨v', w', hrun, r1, r2, -⟩ := run_append_own (P := P) w 0 t o.type e i z size bytes h1 hi hz hsz hby h6 h7 v k xs hown ad m c news hn hc h1c b1 b2 (Nat.zero_le _)
  have r4 := run_app_where w t o.type e i z size bytes h1 hi hz hsz hby v k xs hown ad m c news hn hc h1c b1 b2 v' w' hrun
  unfold Oper.wpIn
  refine ⟨?_, ?_⟩
  · simp [Oper.about, hop, resolve, Target.leads, Sem.run_pure]
  · rw [Oper.semAt_plain F _ _ (by rw [hop]; intro c hc'; cases hc')]
    simp [execOp, hop, resolve, invoke, builtin, hs, hx, hrun, Result.andThen]
    exact hK' _ _ (hK v' w' ⟨r1, r2, r4⟩)
end

/-- The cell of a new block of one cell. -/
theorem new_one (w : World) (u : Value) (e : TypeId) (k : Nat) (hk : k = w.heap.size) : ∀ j x, [u][j]? = some x → (w.alloc (.cells #[u] e)).cell? ((⟨k, 0, none⟩ : Addr).add j) = some x := by
  subst hk
  intro j x hj
  rw [Addr.add_lit]
  cases j with
  | zero => simp at hj; subst hj; simp
  | succ j => simp at hj

/-- What a slice owns lies on, where its block does. -/
theorem own_fr {S : List Nat} {w w' : World} {e : TypeId} {size k : Nat} {v : Value} {xs : List Value} (h : w.ownsRow 0 e size v k xs) (hf : Fr S w w') (hs : ∀ g, v.ownBlock = some g → g ∉ S) : w'.ownsRow 0 e size v k xs := by
  refine ⟨h.1, ?_⟩
  rcases h.2 with hn | ⟨g, cap, cur, rfl, hb, hgg, rest⟩
  · exact .inl hn
  · refine .inr ⟨g, cap, cur, rfl, hb, ?_, rest⟩
    rw [hf.block g (Array.getElem?_eq_some_iff.1 hgg).1 (hs g rfl)]
    exact hgg
theorem own_lt {w : World} {e : TypeId} {size k g : Nat} {v : Value} {xs : List Value} (h : w.ownsRow 0 e size v k xs) (hg : v.ownBlock = some g) : g < w.heap.size := (h.lt g hg).2
/-- A box of another type is not the row. -/
theorem own_ne {w : World} {e e' : TypeId} {size k g b : Nat} {v : Value} {xs : List Value} {c : Array Value} (h : w.ownsRow 0 e size v k xs) (hg : v.ownBlock = some g) (hb : Blk w b c e') (hn : e ≠ e') : b ≠ g := by
  rcases h.2 with ⟨rfl, _⟩ | ⟨g', cap, cur, rfl, _, hgg, _⟩
  · simp [Value.ownBlock] at hg
  · simp [Value.ownBlock] at hg
    subst hg
    intro e2
    subst e2
    have := hgg.symm.trans hb
    simp at this
    exact hn this.2
theorem Appended.fr {w w' : World} {e : TypeId} {size k : Nat} {v v' : Value} {xs : List Value} (h : Appended w e size v k xs v' w') : Fr v.ownBlock.toList w w' :=
  (Fr.refl _ w).grown h.grown (fun k hk => .inl (by simp [hk]))

/-- A slice that reads as these values, one cell each, nil or not. -/
def Rd (w : World) (v : Value) (vs : List Value) : Prop :=
  ∃ p cap, v = .slice p vs.length cap ∧ vs.length ≤ cap ∧ (vs.length = 0 ∨ ∃ g o, p = some ⟨g, o, none⟩ ∧ ∀ k u, vs[k]? = some u → w.cell? ⟨g, o + k, none⟩ = some u)
theorem Rd.kept {w w' : World} {v : Value} {vs : List Value} (h : Rd w v vs) (hk : ∀ g o n c, v = .slice (some ⟨g, o, none⟩) n c → 0 < vs.length → w'.heap[g]? = w.heap[g]?) : Rd w' v vs := by
  obtain ⟨p, cap, rfl, hc, h0⟩ := h
  refine ⟨p, cap, rfl, hc, ?_⟩
  rcases h0 with h0 | ⟨g, o, rfl, h0⟩
  · exact .inl h0
  · exact .inr ⟨g, o, rfl, fun k u hk' => (World.cell?_of_block (w := w) (hk g o _ _ rfl (Nat.lt_of_le_of_lt (Nat.zero_le _) (List.getElem?_eq_some_iff.1 hk').1))).trans (h0 k u hk')⟩
theorem Rd.of_own {w : World} {e n : Nat} {v : Value} {vs : List Value} (h : w.ownsRow 0 e 1 v n vs) : Rd w v vs := by
  have hl : vs.length = n := by have := h.1; simpa using this
  rcases h.2 with ⟨rfl, rfl⟩ | ⟨g, cap, cur, rfl, _, hg, hnc, _, _, _⟩
  · exact ⟨none, 0, by rw [hl], by omega, .inl hl⟩
  · refine ⟨_, cap, by rw [hl], by omega, .inr ⟨g, 0, rfl, fun k u hk => ?_⟩⟩
    have := h.cells (g := g) rfl k u hk
    rw [Addr.add_lit] at this
    exact this
def bools (bs : List Bool) : List Value := bs.map Value.bool
theorem bools_len (bs : List Bool) : (bools bs).length = bs.length := by simp [bools]
theorem bools_get (bs : List Bool) {k : Nat} (hk : k < bs.length) : (bools bs)[k]? = some (.bool (bs.getD k false)) := by simp [bools, List.getD_eq_getElem?_getD, hk]

theorem own_notin {w : World} {e e' : TypeId} {size k b : Nat} {v : Value} {xs : List Value} {c : Array Value} (h : w.ownsRow 0 e size v k xs) (hb : Blk w b c e') (hn : e ≠ e') : b ∉ v.ownBlock.toList := by
  intro hm
  cases hv : v.ownBlock with
  | none => simp [hv] at hm
  | some g => simp [hv] at hm; exact own_ne h hv hb hn hm
theorem own_succ {w : World} {e : TypeId} {size : Nat} {v : Value} {k : Nat} {xs : List Value} (h : w.ownsRow 0 e size v (k + 1) xs) : ∃ g cap, v = .slice (some ⟨g, 0, none⟩) (k + 1) cap := by
  rcases h.2 with ⟨_, h0⟩ | ⟨g, cap, _, rfl, _⟩
  · omega
  · exact ⟨g, cap, rfl⟩
theorem Fr.rd {S : List Nat} {w w' : World} (h : Fr S w w') {v : Value} {vs : List Value} (hr : Rd w v vs) (hs : ∀ g o n c, v = .slice (some ⟨g, o, none⟩) n c → 0 < vs.length → g < w.heap.size ∧ g ∉ S) : Rd w' v vs :=
  hr.kept fun g o n c e hp => h.block g (hs g o n c e hp).1 (hs g o n c e hp).2

/-- It reads on where nothing has turned. -/
theorem Rd.grow {w w' : World} {v : Value} {vs : List Value} (h : Rd w v vs) (hf : Fr [] w w') : Rd w' v vs := by
  obtain ⟨p, cap, rfl, hc, h0⟩ := h
  refine ⟨p, cap, rfl, hc, ?_⟩
  rcases h0 with h0 | ⟨g, o, rfl, h0⟩
  · exact .inl h0
  · exact .inr ⟨g, o, rfl, fun k u hk' => (hf.cell (World.block_lt_of_cell? w _ (h0 k u hk')) (by simp)).trans (h0 k u hk')⟩

/-! ### copy -/
/-- What lies in a row behind copy(row, vs). -/
def copyL (cur vs : List Value) : List Value := vs.take cur.length ++ cur.drop vs.length
theorem copyL_len (cur vs : List Value) : (copyL cur vs).length = cur.length := by simp [copyL]; omega
theorem Fr.setRow {S : List Nat} {a w : World} (h : Fr S a w) (g : Nat) (cs : Array Value) (hg : g ∈ S ∨ a.heap.size ≤ g) : Fr S a (w.setRow g cs) :=
  h.trans ⟨rfl, rfl, rfl, by simp [World.setRow], fun k hk hn => setRow_other w g k cs (fun e => hn (by simp [e] : k ∈ [g]))⟩ (by simpa using hg)
theorem wpList_cp {P : Program} {w : World} {ops : Array Oper} {rest : List Oper} {o : Oper} {a : Act} {Q : Exit → Act → World → Prop} (hgd : o.guard = none) (d s : Operand) (dT sT : TypeId)
    (ho : o.op = .call { callee := .builtin .copy, args := #[d, s], argTypes := #[dT, sT] }) (elem : TypeId) (hu : P.underlying dT = some (.slice elem)) (hsz : (P.info? elem).map (·.size) = some 1)
    (g dLen cap : Nat) (cur vs : List Value) (hdl : cur.length = dLen) (t : TypeId) (sv : Value) (hd : a.eval d = .slice (some ⟨g, 0, none⟩) dLen cap) (hs : a.eval s = sv) (hg : Blk w g cur.toArray t) (hr : Rd w sv vs) (h1 : ∀ v ∈ vs, v.oneCell' = true)
    (h : ∀ w', Blk w' g (copyL cur vs).toArray t → Fr [g] w w' → w'.heap.size = w.heap.size → wpList P ops Q rest (a.put o.dst (goInt (Nat.min vs.length dLen))) w') :
    wpList P ops Q (o :: rest) a w := by
  subst hdl
  obtain ⟨p, c, rfl, hc, h0⟩ := hr
  by_cases hz : Nat.min vs.length cur.length = 0
  · refine wpList_copy_nothing hgd d s dT sT ho elem hu hsz (some ⟨g, 0, none⟩) p cur.length cap vs.length c hd hs hz ?_
    have hcp : copyL cur vs = cur := by
      have hz' : vs.length = 0 ∨ cur.length = 0 := by
        rcases Nat.le_total vs.length cur.length with h2 | h2
        · exact .inl (by rw [← hz]; exact (Nat.min_eq_left h2).symm)
        · exact .inr (by rw [← hz]; exact (Nat.min_eq_right h2).symm)
      rcases hz' with h2 | h2
      · rw [List.length_eq_zero_iff.1 h2]; simp [copyL]
      · rw [List.length_eq_zero_iff.1 h2]; simp [copyL]
    have := h w (by rw [hcp]; exact hg) (Fr.refl _ _) rfl
    rwa [hz] at this
  · have hpos : 0 < vs.length := by
      rcases Nat.eq_zero_or_pos vs.length with h2 | h2
      · rw [h2] at hz; simp at hz
      · exact h2
    rcases h0 with h0 | ⟨g', o', rfl, h0⟩
    · omega
    · have hl : (vs.take cur.length).length = Nat.min vs.length cur.length := by simp [Nat.min_comm]
      refine wpList_copy_own hgd d s dT sT ho elem hu hsz g 0 cur.length cap ⟨g', o', none⟩ vs.length c hd hs cur.toArray t hg (vs.take cur.length) hl (fun j v hj => ?_) (by simp; omega) (fun v hv => h1 v (List.mem_of_mem_take hv)) ?_
      · rw [Addr.add_lit]
        refine h0 j v ?_
        rw [List.getElem?_take] at hj
        split at hj
        · exact hj
        · cases hj
      · rw [hl]
        refine h _ ?_ ((Fr.refl _ w).setRow g _ (.inl (by simp))) (by simp [World.setRow])
        unfold Blk
        rw [setRow_heap w g cur.toArray _ t _ hg]
        congr 2
        simp only [copyL, List.take_zero, List.nil_append, Nat.zero_add]
        rcases Nat.le_total vs.length cur.length with h2 | h2
        · rw [show Nat.min vs.length cur.length = vs.length from Nat.min_eq_left h2]
        · rw [show Nat.min vs.length cur.length = cur.length from Nat.min_eq_right h2, List.drop_eq_nil_of_le (Nat.le_refl _), List.drop_eq_nil_of_le h2]

end Go.Proofs.YtbpgpjibljgiiaaDoor
