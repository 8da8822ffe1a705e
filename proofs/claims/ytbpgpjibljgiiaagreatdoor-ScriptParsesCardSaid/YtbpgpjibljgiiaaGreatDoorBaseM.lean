/-
  A small vocabulary for blocks of the heap and for what a call leaves as it was. No statement about the program stands here.
  How an argument reads, in words that a walk can use; and what closes a law: it answers true, nothing that was there has turned. No statement about the program stands here.
  Slices by their cells: how one reads, element for element; append with any such source, nil or not. No statement about the program stands here.
  A region that draws its order, by what is true when some of its operations are done: one step for each operation, not one walk for each order. No statement about the program stands here.
  A region that draws its order, by what is true when some of its operations are done: within a fence (and within a round). No statement about the program stands here.
  A region that draws its order, by facts about its slots: the frame stays abstract, each operation is looked at once, by the facts of those it waits for. No statement about the program stands here.
  A region that draws its order: first operations that only add memory, in any order, then a tail in which each waits for all ahead of it. No statement about the program stands here.
-/
import Derived.WalkKit
import Derived.WalkSpells
import Derived.WalkLawsBesides
import Derived.Lib.Hide
import Derived.OwnWalkIn
import Derived.Laws.CopyOwn
import Derived.BigQuiet
import Derived.Deep.QuietTactic
import Derived.ProofKit
import Derived.OpenShut
import Derived.Deep.Slices
import Derived.Carry
import Derived.Lib.SmallJoins
import Derived.Deep.MidRow
import Derived.Orders
import Derived.OrdersIn
namespace Go.Proofs.YtbpgpjibljgiiaaGreatDoor
open Go.RowKit

/-- Block b holds just these cells. -/
def Blk (w : World) (b : Nat) (c : Array Value) (e : TypeId) : Prop := w.heap[b]? = some (.cells c e (0, 0))

theorem Blk.lt {w : World} {b : Nat} {c : Array Value} {e : TypeId} (h : Blk w b c e) : b < w.heap.size := (Array.getElem?_eq_some_iff.1 h).1
theorem Blk.at {w : World} {b : Nat} {c : Array Value} {e : TypeId} (h : Blk w b c e) (i : Nat) {v : Value} (hv : c[i]? = some v) : w.cell? ⟨b, i, none⟩ = some v := by
  simp [World.cell?, show w.heap[b]? = _ from h, hv]
theorem Blk.free {w : World} {b : Nat} {c : Array Value} {e : TypeId} (h : Blk w b c e) (i : Nat) : w.frozen? ⟨b, i, none⟩ = false := by
  simp [World.frozen?, show w.heap[b]? = _ from h]
theorem Blk.new (w : World) (c : Array Value) (e : TypeId) : Blk (w.alloc (.cells c e)) w.heap.size c e := heap_alloc_new w _
theorem Blk.new_at {w : World} {k : Nat} (hk : k = w.heap.size) (c : Array Value) (e : TypeId) : Blk (w.alloc (.cells c e)) k c e := by
  subst hk; exact Blk.new w c e
theorem Blk.alloc {w : World} {b : Nat} {c : Array Value} {e : TypeId} (h : Blk w b c e) (o : Obj) : Blk (w.alloc o) b c e :=
  (Below.heap_alloc w o b h.lt).trans h
theorem Blk.drew {w : World} {b : Nat} {c : Array Value} {e : TypeId} (h : Blk w b c e) : Blk w.drew b c e := h
theorem Blk.drewN {w : World} {b : Nat} {c : Array Value} {e : TypeId} (h : Blk w b c e) (n : Nat) : Blk (w.drewN n) b c e := h
theorem Blk.set {w : World} {b : Nat} {c : Array Value} {e : TypeId} (h : Blk w b c e) (i : Nat) (v : Value) : Blk (w.setCell ⟨b, i, none⟩ v) b (c.setIfInBounds i v) e := by
  unfold Blk at h ⊢
  simp [World.setCell, Array.getElem?_modify, h]
theorem Blk.other {w : World} {b : Nat} {c : Array Value} {e : TypeId} (h : Blk w b c e) (a : Addr) (v : Value) (hn : b ≠ a.block) : Blk (w.setCell a v) b c e :=
  (Below.heap_setCell w a v b hn).trans h
theorem Blk.inj {w : World} {b : Nat} {c c' : Array Value} {e e' : TypeId} (h : Blk w b c e) (h' : Blk w b c' e') : c = c' ∧ e = e' := by
  have := h.symm.trans h'; simpa using this
theorem Blk.ne {w : World} {b b' : Nat} {c c' : Array Value} {e e' : TypeId} (h : Blk w b c e) (h' : Blk w b' c' e') (hn : e ≠ e') : b ≠ b' := by
  rintro rfl; exact hn (h.inj h').2

/-- Nothing that was there has turned, but the blocks of S. -/
structure Fr (S : List Nat) (w w' : World) : Prop where
  os : w'.os = w.os
  tape : w'.tape = w.tape
  output : w'.output = w.output
  size : w.heap.size ≤ w'.heap.size
  block : ∀ k, k < w.heap.size → k ∉ S → w'.heap[k]? = w.heap[k]?

theorem Fr.refl (S : List Nat) (w : World) : Fr S w w := ⟨rfl, rfl, rfl, Nat.le_refl _, fun _ _ _ => rfl⟩
theorem Fr.trans {S T : List Nat} {a b c : World} (h : Fr S a b) (k : Fr T b c) (hs : ∀ x ∈ T, x ∈ S ∨ a.heap.size ≤ x) : Fr S a c :=
  ⟨k.os.trans h.os, k.tape.trans h.tape, k.output.trans h.output, Nat.le_trans h.size k.size, fun i hi hn =>
    (k.block i (Nat.lt_of_lt_of_le hi h.size) (fun ht => by rcases hs i ht with h1 | h1; exact hn h1; omega)).trans (h.block i hi hn)⟩
theorem Fr.mono {S T : List Nat} {w w' : World} (h : Fr S w w') (hs : ∀ x ∈ S, x ∈ T ∨ w.heap.size ≤ x) : Fr T w w' :=
  ⟨h.os, h.tape, h.output, h.size, fun k hk hn => h.block k hk (fun hx => by rcases hs k hx with h1 | h1; exact hn h1; omega)⟩
theorem Fr.drew {S : List Nat} {a w : World} (h : Fr S a w) : Fr S a w.drew := ⟨h.os, h.tape, h.output, h.size, h.block⟩
theorem Fr.drewN {S : List Nat} {a w : World} (h : Fr S a w) (n : Nat) : Fr S a (w.drewN n) := ⟨h.os, h.tape, h.output, h.size, h.block⟩
theorem Fr.alloc {S : List Nat} {a w : World} (h : Fr S a w) (o : Obj) : Fr S a (w.alloc o) :=
  ⟨h.os, h.tape, h.output, Nat.le_trans h.size (by simp), fun k hk hn => (Below.heap_alloc w o k (Nat.lt_of_lt_of_le hk h.size)).trans (h.block k hk hn)⟩
theorem Fr.setCell {S : List Nat} {a w : World} (h : Fr S a w) (p : Addr) (v : Value) (hp : p.block ∈ S ∨ a.heap.size ≤ p.block) : Fr S a (w.setCell p v) :=
  ⟨h.os, h.tape, h.output, Nat.le_trans h.size (by simp), fun k hk hn => (Below.heap_setCell w p v k (fun e => by
    subst e; rcases hp with h1 | h1; exact hn h1; omega)).trans (h.block k hk hn)⟩
theorem Fr.grown {S : List Nat} {a w w' : World} {row : Option Nat} (h : Fr S a w) (hg : w.grownBy w' row) (hr : ∀ k, row = some k → k ∈ S ∨ a.heap.size ≤ k) : Fr S a w' :=
  ⟨hg.os.trans h.os, hg.tape.trans h.tape, hg.output.trans h.output, Nat.le_trans h.size hg.size, fun k hk hn =>
    (hg.block k (Nat.lt_of_lt_of_le hk h.size) (fun e => by rcases hr k e.symm with h1 | h1; exact hn h1; omega)).trans (h.block k hk hn)⟩
theorem Fr.below {w w' : World} (h : Fr [] w w') : Below w.heap.size w w' := ⟨h.os, h.tape, h.output, h.size, fun k hk => h.block k hk (by simp)⟩
theorem Fr.of_below {w w' : World} (h : Below w.heap.size w w') (S : List Nat) : Fr S w w' := ⟨h.os, h.tape, h.output, h.size, fun k hk _ => h.block k hk⟩
theorem Fr.below' {S : List Nat} {B : Nat} {w w' : World} (h : Fr S w w') (hB : B ≤ w.heap.size) (hs : ∀ x ∈ S, B ≤ x) : Below B w w' :=
  ⟨h.os, h.tape, h.output, h.size, fun k hk => h.block k (by omega) (fun hx => by have := hs k hx; omega)⟩
theorem Fr.blk {S : List Nat} {w w' : World} (h : Fr S w w') {b : Nat} {c : Array Value} {e : TypeId} (hb : Blk w b c e) (hn : b ∉ S) : Blk w' b c e :=
  (h.block b hb.lt hn).trans hb
theorem Fr.cell {S : List Nat} {w w' : World} (h : Fr S w w') {a : Addr} (ha : a.block < w.heap.size) (hn : a.block ∉ S) : w'.cell? a = w.cell? a :=
  World.cell?_of_block (w := w) (h.block a.block ha hn)
theorem Fr.frozen {S : List Nat} {w w' : World} (h : Fr S w w') {a : Addr} (ha : a.block < w.heap.size) (hn : a.block ∉ S) : w'.frozen? a = w.frozen? a :=
  World.frozen?_of_block (w := w) (h.block a.block ha hn)

theorem drewN_two (w : World) (j k : Nat) : (w.drewN j).drewN k = w.drewN (j + k) := by simp [World.drewN, Nat.add_assoc]
theorem ret_bool {a b : Bool} (h : a = b) : Ending.returned (.bool a) = .returned (.bool b) := by rw [h]
theorem ret_int {k : IntKind} {a b : Int} (h : a = b) : Ending.returned (.int k a) = .returned (.int k b) := by rw [h]

/-- The numbers as values. -/
def ints (xs : List Int) : List Value := xs.map (Value.int .i64)
theorem ints_len (xs : List Int) : (ints xs).length = xs.length := by simp [ints]
theorem ints_one (xs : List Int) : ∀ u ∈ ints xs, u.oneCell' = true := by
  intro u hu; simp only [ints, List.mem_map] at hu; obtain ⟨x, -, rfl⟩ := hu; rfl
theorem ints_at (xs : List Int) (j : Nat) (u : Value) (h : (ints xs)[j]? = some u) : (ints xs).toArray[j]? = some u := by simpa using h
theorem Blk.ints {w : World} {b : Nat} {xs : List Int} {e : TypeId} (h : Blk w b (ints xs).toArray e) : ∀ j u, (ints xs)[j]? = some u → w.cell? ((⟨b, 0, none⟩ : Addr).add j) = some u := by
  intro j u hu
  have := h.at j (ints_at xs j u hu)
  rw [Addr.add_lit]
  simpa using this
theorem Blk.int {w : World} {b : Nat} {xs : List Int} {e : TypeId} (h : Blk w b (Go.Proofs.YtbpgpjibljgiiaaGreatDoor.ints xs).toArray e) {k : Nat} (hk : k < xs.length) : w.cell? ⟨b, k, none⟩ = some (.int .i64 (xs.getD k 0)) :=
  h.at k (by simp [Go.Proofs.YtbpgpjibljgiiaaGreatDoor.ints, List.getD_eq_getElem?_getD, hk])
theorem ints_set (xs : List Int) (k : Nat) (v : Int) : (ints xs).toArray.setIfInBounds k (.int .i64 v) = (ints (xs.set k v)).toArray := by
  simp [ints, List.map_set]

/-- A slice that reads as these numbers, nil or not. -/
def RdInts (w : World) (v : Value) (xs : List Int) : Prop :=
  ∃ p cap, v = .slice p xs.length cap ∧ xs.length ≤ cap ∧ (xs.length = 0 ∨ ∃ g o, p = some ⟨g, o, none⟩ ∧ ∀ k, k < xs.length → w.cell? ⟨g, o + k, none⟩ = some (.int .i64 (xs.getD k 0)))
theorem RdInts.of_own {w : World} {base e n : Nat} {v : Value} {xs : List Int} (h : w.ownsRow base e 1 v n (ints xs)) : RdInts w v xs := by
  have hl : xs.length = n := by have := h.1; simpa [ints_len] using this
  rcases h.2 with ⟨rfl, rfl⟩ | ⟨g, cap, cur, rfl, _, hg, hnc, _, _, _⟩
  · exact ⟨none, 0, by rw [hl], by omega, .inl hl⟩
  · refine ⟨_, cap, by rw [hl], by omega, .inr ⟨g, 0, rfl, fun k hk => ?_⟩⟩
    have := h.cells (g := g) rfl k (.int .i64 (xs.getD k 0)) (by simp [ints, List.getD_eq_getElem?_getD, hk])
    rw [Addr.add_lit] at this
    exact this
theorem RdInts.nil (w : World) : RdInts w (.slice none 0 0) [] := ⟨none, 0, rfl, Nat.le_refl _, .inl rfl⟩
/-- It reads on wherever its block lies as it lay. -/
theorem RdInts.kept {w w' : World} {v : Value} {xs : List Int} (h : RdInts w v xs) (hk : ∀ g o n c, v = .slice (some ⟨g, o, none⟩) n c → w'.heap[g]? = w.heap[g]?) : RdInts w' v xs := by
  obtain ⟨p, cap, rfl, hc, h0⟩ := h
  refine ⟨p, cap, rfl, hc, ?_⟩
  rcases h0 with h0 | ⟨g, o, rfl, h0⟩
  · exact .inl h0
  · exact .inr ⟨g, o, rfl, fun k hk' => (World.cell?_of_block (w := w) (hk g o _ _ rfl)).trans (h0 k hk')⟩

/-! ### append, and where the result lies -/
section
variable {P : Program}
theorem run_app_where (w : World) (t ty e : TypeId) (i : TypeInfo) (z : Value) (size bytes : Nat) (ht : P.underlying t = some (.slice e)) (hi : P.info? e = some i) (hz : i.zero = some z)
    (hsize : i.size = size) (hby : i.bytes = bytes)
    (v : Value) (n : Nat) (xs : List Value) (hown : w.ownsRow 0 e size v n xs)
    (a : Addr) (m c : Nat) (news : List Value) (hl : news.length = m * size) (hnews : ∀ j u, news[j]? = some u → w.cell? (a.add j) = some u) (h1 : ∀ u ∈ news, u.oneCell' = true)
    (h63 : n + m ≤ maxLen) (hbytes : (n + m) * bytes ≤ 140737488355328) (v' : Value) (w' : World) (hr : (Builtin.append_ #[t, t] ty #[v, .slice (some a) m c]).run P w = .ok v' w') :
    v'.ownBlock = v.ownBlock ∨ v'.ownBlock = some w.heap.size := by
  subst hsize
  subst hby
  have hsmall : n + m ≤ 9223372036854775807 := by simp only [maxLen] at h63; omega
  rcases hown.2 with ⟨rfl, rfl⟩ | ⟨g, cap, cur, rfl, hbg, hg, hnc, hcm, hcs, htake⟩
  · by_cases hm : m = 0
    · subst hm
      simp [Builtin.append_, run_underlying ht, sizeOf, typeInfo, hi, Builtin.lenOf, Builtin.firstCells, loadCells, loadCellsFrom] at hr
      exact .inl (by rw [← hr.1])
    · have hr' := run_append_nil (P := P) w t ty e i z ht hi hz a m c news hl hnews (by omega) (by omega) (by have hb := hbytes; simp only [Nat.zero_add] at hb; omega)
      rw [hr] at hr'
      simp only [Result.ok.injEq] at hr'
      exact .inr (by rw [hr'.1]; rfl)
  · by_cases hroom : n + m ≤ cap
    · have hfit : n * i.size + news.length ≤ cur.size := by rw [hl, hcs, ← Nat.add_mul]; exact Nat.mul_le_mul_right _ hroom
      have hr' := run_append_room (P := P) w t ty e i ht hi g n cap cur hg a m c news hl hnews h1 hroom hfit
      rw [hr] at hr'
      simp only [Result.ok.injEq] at hr'
      exact .inl (by rw [hr'.1]; rfl)
    · have holds : ∀ j u, xs[j]? = some u → w.cell? ((⟨g, 0, none⟩ : Addr).add j) = some u := hown.cells (g := g) rfl
      have hr' := run_append_grow (P := P) w t ty e i z ht hi hz ⟨g, 0, none⟩ n cap xs hown.1 holds a m c news hl hnews (by omega) (by omega) (growslice_fits (by omega) hbytes)
      rw [hr] at hr'
      simp only [Result.ok.injEq] at hr'
      exact .inr (by rw [hr'.1]; rfl)

/-- What append does to a slice that owns its row. -/
structure Appended (w : World) (e : TypeId) (size : Nat) (v : Value) (k : Nat) (xs : List Value) (v' : Value) (w' : World) : Prop where
  own : w'.ownsRow 0 e size v' k xs
  grown : w.grownBy w' v.ownBlock
  place : v'.ownBlock = v.ownBlock ∨ v'.ownBlock = some w.heap.size

theorem wpList_app (w : World) {ops : Array Oper} {rest : List Oper} {o : Oper} {a : Act} {Q : Exit → Act → World → Prop}
    (hg : o.guard = none) (s x : Operand) (t : TypeId) (hop : o.op = Op.call { callee := Callee.builtin Builtin.append, args := #[s, x], argTypes := #[t, t] })
    (e : TypeId) (z : Value) (size bytes : Nat) (h1 : P.underlying t = some (.slice e)) (h2 : (P.info? e).map (fun i => (i.zero, i.size, i.bytes)) = some (some z, size, bytes)) (h6 : z.cells.size = size) (h7 : 0 < size)
    (v : Value) (k : Nat) (xs : List Value) (hs : a.eval s = v) (hown : w.ownsRow 0 e size v k xs) (ad : Addr) (m c : Nat) (news : List Value) (hx : a.eval x = .slice (some ad) m c) (hn : news.length = m * size)
    (hc : ∀ j u, news[j]? = some u → w.cell? (ad.add j) = some u) (h1c : ∀ u ∈ news, u.oneCell' = true) (b1 : k + m ≤ maxLen) (b2 : (k + m) * bytes ≤ 140737488355328)
    (hK : ∀ v' w', Appended w e size v (k + m) (xs ++ news) v' w' → wpList P ops Q rest (a.put o.dst v') w') :
    wpList P ops Q (o :: rest) a w := by
  obtain ⟨i, hi, hz, hsz, hby⟩ := info_parts h2
  refine wpList_plain hg fun K hK' => ?_
  obtain ⟨v', w', hrun, r1, r2, -⟩ := run_append_own (P := P) w 0 t o.type e i z size bytes h1 hi hz hsz hby h6 h7 v k xs hown ad m c news hn hc h1c b1 b2 (Nat.zero_le _)
  have r4 := run_app_where w t o.type e i z size bytes h1 hi hz hsz hby v k xs hown ad m c news hn hc h1c b1 b2 v' w' hrun
  unfold Oper.wp execOp
  simp only [hop, resolve, invoke, builtin, Sem.run_bind, Sem.run_pure, Result.andThen_ok, List.map_toArray, List.map_cons, List.map_nil, hs, hx, hrun]
  exact hK' _ _ (hK v' w' ⟨r1, r2, r4⟩)

theorem wpListIn_app {F : Fence} {n : Nat} (w : World) {ops : Array Oper} {rest : List Oper} {o : Oper} {a : Act} {Q : Exit → Act → World → Prop}
    (hg : o.guard = none) (s x : Operand) (t : TypeId) (hop : o.op = Op.call { callee := Callee.builtin Builtin.append, args := #[s, x], argTypes := #[t, t] })
    (e : TypeId) (z : Value) (size bytes : Nat) (h1 : P.underlying t = some (.slice e)) (h2 : (P.info? e).map (fun i => (i.zero, i.size, i.bytes)) = some (some z, size, bytes)) (h6 : z.cells.size = size) (h7 : 0 < size)
    (v : Value) (k : Nat) (xs : List Value) (hs : a.eval s = v) (hown : w.ownsRow 0 e size v k xs) (ad : Addr) (m c : Nat) (news : List Value) (hx : a.eval x = .slice (some ad) m c) (hn : news.length = m * size)
    (hc : ∀ j u, news[j]? = some u → w.cell? (ad.add j) = some u) (h1c : ∀ u ∈ news, u.oneCell' = true) (b1 : k + m ≤ maxLen) (b2 : (k + m) * bytes ≤ 140737488355328)
    (hK : ∀ v' w', Appended w e size v (k + m) (xs ++ news) v' w' → wpListIn F n P ops Q rest (a.put o.dst v') w') :
    wpListIn F n P ops Q (o :: rest) a w := by
  obtain ⟨i, hi, hz, hsz, hby⟩ := info_parts h2
  refine wpListIn_plain hg fun K hK' => ?_
  obtain ⟨v', w', hrun, r1, r2, -⟩ := run_append_own (P := P) w 0 t o.type e i z size bytes h1 hi hz hsz hby h6 h7 v k xs hown ad m c news hn hc h1c b1 b2 (Nat.zero_le _)
  have r4 := run_app_where w t o.type e i z size bytes h1 hi hz hsz hby v k xs hown ad m c news hn hc h1c b1 b2 v' w' hrun
  unfold Oper.wpIn
  refine ⟨?_, ?_⟩
  · simp [Oper.about, hop, resolve, Target.leads, Sem.run_pure]
  · rw [Oper.semAt_plain F _ _ (by rw [hop]; intro c hc'; cases hc')]
    simp [execOp, hop, resolve, invoke, builtin, hs, hx, hrun, Result.andThen]
    exact hK' _ _ (hK v' w' ⟨r1, r2, r4⟩)
end

/-- The cell of a new block of one cell. -/
theorem new_one (w : World) (u : Value) (e : TypeId) (k : Nat) (hk : k = w.heap.size) : ∀ j x, [u][j]? = some x → (w.alloc (.cells #[u] e)).cell? ((⟨k, 0, none⟩ : Addr).add j) = some x := by
  subst hk
  intro j x hj
  rw [Addr.add_lit]
  cases j with
  | zero => simp at hj; subst hj; simp
  | succ j => simp at hj

/-- What a slice owns lies on, where its block does. -/
theorem own_fr {S : List Nat} {w w' : World} {e : TypeId} {size k : Nat} {v : Value} {xs : List Value} (h : w.ownsRow 0 e size v k xs) (hf : Fr S w w') (hs : ∀ g, v.ownBlock = some g → g ∉ S) : w'.ownsRow 0 e size v k xs := by
  refine ⟨h.1, ?_⟩
  rcases h.2 with hn | ⟨g, cap, cur, rfl, hb, hgg, rest⟩
  · exact .inl hn
  · refine .inr ⟨g, cap, cur, rfl, hb, ?_, rest⟩
    rw [hf.block g (Array.getElem?_eq_some_iff.1 hgg).1 (hs g rfl)]
    exact hgg
theorem own_lt {w : World} {e : TypeId} {size k g : Nat} {v : Value} {xs : List Value} (h : w.ownsRow 0 e size v k xs) (hg : v.ownBlock = some g) : g < w.heap.size := (h.lt g hg).2
/-- A box of another type is not the row. -/
theorem own_ne {w : World} {e e' : TypeId} {size k g b : Nat} {v : Value} {xs : List Value} {c : Array Value} (h : w.ownsRow 0 e size v k xs) (hg : v.ownBlock = some g) (hb : Blk w b c e') (hn : e ≠ e') : b ≠ g := by
  rcases h.2 with ⟨rfl, _⟩ | ⟨g', cap, cur, rfl, _, hgg, _⟩
  · simp [Value.ownBlock] at hg
  · simp [Value.ownBlock] at hg
    subst hg
    intro e2
    subst e2
    have := hgg.symm.trans hb
    simp at this
    exact hn this.2
theorem Appended.fr {w w' : World} {e : TypeId} {size k : Nat} {v v' : Value} {xs : List Value} (h : Appended w e size v k xs v' w') : Fr v.ownBlock.toList w w' :=
  (Fr.refl _ w).grown h.grown (fun k hk => .inl (by simp [hk]))

/-- A slice that reads as these values, one cell each, nil or not. -/
def Rd (w : World) (v : Value) (vs : List Value) : Prop :=
  ∃ p cap, v = .slice p vs.length cap ∧ vs.length ≤ cap ∧ (vs.length = 0 ∨ ∃ g o, p = some ⟨g, o, none⟩ ∧ ∀ k u, vs[k]? = some u → w.cell? ⟨g, o + k, none⟩ = some u)
theorem Rd.kept {w w' : World} {v : Value} {vs : List Value} (h : Rd w v vs) (hk : ∀ g o n c, v = .slice (some ⟨g, o, none⟩) n c → 0 < vs.length → w'.heap[g]? = w.heap[g]?) : Rd w' v vs := by
  obtain ⟨p, cap, rfl, hc, h0⟩ := h
  refine ⟨p, cap, rfl, hc, ?_⟩
  rcases h0 with h0 | ⟨g, o, rfl, h0⟩
  · exact .inl h0
  · exact .inr ⟨g, o, rfl, fun k u hk' => (World.cell?_of_block (w := w) (hk g o _ _ rfl (Nat.lt_of_le_of_lt (Nat.zero_le _) (List.getElem?_eq_some_iff.1 hk').1))).trans (h0 k u hk')⟩
theorem Rd.of_own {w : World} {e n : Nat} {v : Value} {vs : List Value} (h : w.ownsRow 0 e 1 v n vs) : Rd w v vs := by
  have hl : vs.length = n := by have := h.1; simpa using this
  rcases h.2 with ⟨rfl, rfl⟩ | ⟨g, cap, cur, rfl, _, hg, hnc, _, _, _⟩
  · exact ⟨none, 0, by rw [hl], by omega, .inl hl⟩
  · refine ⟨_, cap, by rw [hl], by omega, .inr ⟨g, 0, rfl, fun k u hk => ?_⟩⟩
    have := h.cells (g := g) rfl k u hk
    rw [Addr.add_lit] at this
    exact this
def bools (bs : List Bool) : List Value := bs.map Value.bool
theorem bools_len (bs : List Bool) : (bools bs).length = bs.length := by simp [bools]
theorem bools_get (bs : List Bool) {k : Nat} (hk : k < bs.length) : (bools bs)[k]? = some (.bool (bs.getD k false)) := by simp [bools, List.getD_eq_getElem?_getD, hk]

theorem own_notin {w : World} {e e' : TypeId} {size k b : Nat} {v : Value} {xs : List Value} {c : Array Value} (h : w.ownsRow 0 e size v k xs) (hb : Blk w b c e') (hn : e ≠ e') : b ∉ v.ownBlock.toList := by
  intro hm
  cases hv : v.ownBlock with
  | none => simp [hv] at hm
  | some g => simp [hv] at hm; exact own_ne h hv hb hn hm
theorem own_succ {w : World} {e : TypeId} {size : Nat} {v : Value} {k : Nat} {xs : List Value} (h : w.ownsRow 0 e size v (k + 1) xs) : ∃ g cap, v = .slice (some ⟨g, 0, none⟩) (k + 1) cap := by
  rcases h.2 with ⟨_, h0⟩ | ⟨g, cap, _, rfl, _⟩
  · omega
  · exact ⟨g, cap, rfl⟩
theorem Fr.rd {S : List Nat} {w w' : World} (h : Fr S w w') {v : Value} {vs : List Value} (hr : Rd w v vs) (hs : ∀ g o n c, v = .slice (some ⟨g, o, none⟩) n c → 0 < vs.length → g < w.heap.size ∧ g ∉ S) : Rd w' v vs :=
  hr.kept fun g o n c e hp => h.block g (hs g o n c e hp).1 (hs g o n c e hp).2

/-- It reads on where nothing has turned. -/
theorem Rd.grow {w w' : World} {v : Value} {vs : List Value} (h : Rd w v vs) (hf : Fr [] w w') : Rd w' v vs := by
  obtain ⟨p, cap, rfl, hc, h0⟩ := h
  refine ⟨p, cap, rfl, hc, ?_⟩
  rcases h0 with h0 | ⟨g, o, rfl, h0⟩
  · exact .inl h0
  · exact .inr ⟨g, o, rfl, fun k u hk' => (hf.cell (World.block_lt_of_cell? w _ (h0 k u hk')) (by simp)).trans (h0 k u hk')⟩

/-! ### copy -/
/-- What lies in a row behind copy(row, vs). -/
def copyL (cur vs : List Value) : List Value := vs.take cur.length ++ cur.drop vs.length
theorem copyL_len (cur vs : List Value) : (copyL cur vs).length = cur.length := by simp [copyL]; omega
theorem Fr.setRow {S : List Nat} {a w : World} (h : Fr S a w) (g : Nat) (cs : Array Value) (hg : g ∈ S ∨ a.heap.size ≤ g) : Fr S a (w.setRow g cs) :=
  h.trans ⟨rfl, rfl, rfl, by simp [World.setRow], fun k hk hn => setRow_other w g k cs (fun e => hn (by simp [e] : k ∈ [g]))⟩ (by simpa using hg)
theorem wpList_cp {P : Program} {w : World} {ops : Array Oper} {rest : List Oper} {o : Oper} {a : Act} {Q : Exit → Act → World → Prop} (hgd : o.guard = none) (d s : Operand) (dT sT : TypeId)
    (ho : o.op = .call { callee := .builtin .copy, args := #[d, s], argTypes := #[dT, sT] }) (elem : TypeId) (hu : P.underlying dT = some (.slice elem)) (hsz : (P.info? elem).map (·.size) = some 1)
    (g dLen cap : Nat) (cur vs : List Value) (hdl : cur.length = dLen) (t : TypeId) (sv : Value) (hd : a.eval d = .slice (some ⟨g, 0, none⟩) dLen cap) (hs : a.eval s = sv) (hg : Blk w g cur.toArray t) (hr : Rd w sv vs) (h1 : ∀ v ∈ vs, v.oneCell' = true)
    (h : ∀ w', Blk w' g (copyL cur vs).toArray t → Fr [g] w w' → w'.heap.size = w.heap.size → wpList P ops Q rest (a.put o.dst (goInt (Nat.min vs.length dLen))) w') :
    wpList P ops Q (o :: rest) a w := by
  subst hdl
  obtain ⟨p, c, rfl, hc, h0⟩ := hr
  by_cases hz : Nat.min vs.length cur.length = 0
  · refine wpList_copy_nothing hgd d s dT sT ho elem hu hsz (some ⟨g, 0, none⟩) p cur.length cap vs.length c hd hs hz ?_
    have hcp : copyL cur vs = cur := by
      have hz' : vs.length = 0 ∨ cur.length = 0 := by
        rcases Nat.le_total vs.length cur.length with h2 | h2
        · exact .inl (by rw [← hz]; exact (Nat.min_eq_left h2).symm)
        · exact .inr (by rw [← hz]; exact (Nat.min_eq_right h2).symm)
      rcases hz' with h2 | h2
      · rw [List.length_eq_zero_iff.1 h2]; simp [copyL]
      · rw [List.length_eq_zero_iff.1 h2]; simp [copyL]
    have := h w (by rw [hcp]; exact hg) (Fr.refl _ _) rfl
    rwa [hz] at this
  · have hpos : 0 < vs.length := by
      rcases Nat.eq_zero_or_pos vs.length with h2 | h2
      · rw [h2] at hz; simp at hz
      · exact h2
    rcases h0 with h0 | ⟨g', o', rfl, h0⟩
    · omega
    · have hl : (vs.take cur.length).length = Nat.min vs.length cur.length := by simp [Nat.min_comm]
      refine wpList_copy_own hgd d s dT sT ho elem hu hsz g 0 cur.length cap ⟨g', o', none⟩ vs.length c hd hs cur.toArray t hg (vs.take cur.length) hl (fun j v hj => ?_) (by simp; omega) (fun v hv => h1 v (List.mem_of_mem_take hv)) ?_
      · rw [Addr.add_lit]
        refine h0 j v ?_
        rw [List.getElem?_take] at hj
        split at hj
        · exact hj
        · cases hj
      · rw [hl]
        refine h _ ?_ ((Fr.refl _ w).setRow g _ (.inl (by simp))) (by simp [World.setRow])
        unfold Blk
        rw [setRow_heap w g cur.toArray _ t _ hg]
        congr 2
        simp only [copyL, List.take_zero, List.nil_append, Nat.zero_add]
        rcases Nat.le_total vs.length cur.length with h2 | h2
        · rw [show Nat.min vs.length cur.length = vs.length from Nat.min_eq_left h2]
        · rw [show Nat.min vs.length cur.length = cur.length from Nat.min_eq_right h2, List.drop_eq_nil_of_le (Nat.le_refl _), List.drop_eq_nil_of_le h2]

end Go.Proofs.YtbpgpjibljgiiaaGreatDoor
namespace Go.Proofs.YtbpgpjibljgiiaaGreatDoor
open Go.RowKit Go.ChangeShapes Go.WideShapes Go.ChangeAt
set_option linter.unusedVariables false

/-- A slice whose elements, 'size' cells each, are as Q says of the list 'as'; nil or not. -/
def RdS {α : Type} (w : World) (v : Value) (size : Nat) (Q : List Value → α → Prop) (as : List α) : Prop :=
  ∃ p cap, v = .slice p as.length cap ∧ as.length ≤ cap ∧ cap ≤ maxLen ∧
    (as.length = 0 ∨ ∃ g o, p = some ⟨g, o, none⟩ ∧ ∀ k (hk : k < as.length), ∃ cs, cs.length = size ∧ (∀ j u, cs[j]? = some u → w.cell? ⟨g, o + k * size + j, none⟩ = some u) ∧ Q cs as[k])

section
variable {H : Type} {enc : TypeId × Value → H} {P : Program} {w : World} {base : Nat} {spare : Nat → Bool} {held : Bool}

theorem addr_of_cell {a : Addr} {v : Value} (h : w.cell? a = some v) : a = ⟨a.block, a.off, none⟩ := by
  obtain ⟨b, o, s⟩ := a
  unfold World.cell? at h
  split at h
  · cases s with
    | none => rfl
    | some x => simp at h
  · cases h
theorem read_slice {α : Type} {t e : TypeId} {fuel : Nat} {cs : List Value} {x : DataW H × List MemPlace} (ht : P.underlying t = some (.slice e)) (hc : 0 < P.cellsOf e) (Q : List Value → α → Prop)
    (hel : ∀ n cs x, DataW.trod enc P w base spare held n e cs = some x → ∃ a, Q cs a) (h : DataW.trod enc P w base spare held fuel t cs = some x) :
    ∃ v as, cs = [v] ∧ RdS w v (P.cellsOf e) Q as := by
  rcases Deep.open_slice ht h with ⟨rfl, _⟩ | ⟨a, len, cap, m, n, D, Pl, rfl, hb, hl, hm, hmm, rfl, hx⟩
  · exact ⟨_, [], rfl, none, 0, rfl, Nat.le_refl _, by decide, .inl rfl⟩
  · have hlm : len ≤ m := by rw [hmm]; split <;> omega
    have hx' : ∀ i, i < len → ∃ y : α × List Value, w.cells? base (a.add (i * P.cellsOf e)) (P.cellsOf e) = some y.2 ∧ Q y.2 y.1 := fun i hi => by
      obtain ⟨cs', h1, h2⟩ := hx i (by omega)
      obtain ⟨b, hb⟩ := hel _ _ _ h2
      exact ⟨(b, cs'), h1, hb⟩
    by_cases h0 : len = 0
    · subst h0
      exact ⟨_, [], rfl, some a, cap, rfl, Nat.zero_le _, hm, .inl rfl⟩
    · obtain ⟨y0, hy0⟩ := hx' 0 (by omega)
      haveI : Inhabited (α × List Value) := ⟨y0⟩
      obtain ⟨F, hF⟩ := Deep.choose_lt hx'
      have hsp : a = ⟨a.block, a.off, none⟩ := by
        obtain ⟨_, hl2, hg⟩ := World.cells?_some hy0.1
        have h2 := hg 0 hc
        rw [List.getElem?_eq_getElem (by omega)] at h2
        have h3 : w.cell? a = some y0.2[0] := by simpa [Addr.add] using h2
        exact addr_of_cell h3
      refine ⟨_, (List.range len).map fun i => (F i).1, rfl, some a, cap, by simp, by simpa using hl, hm, .inr ⟨a.block, a.off, by rw [← hsp], fun k hk => ?_⟩⟩
      have hk' : k < len := by simpa using hk
      obtain ⟨h1, h2⟩ := hF k hk'
      obtain ⟨_, hl2, hg⟩ := World.cells?_some h1
      refine ⟨(F k).2, hl2, fun j u hu => ?_, by simpa using h2⟩
      have hj : j < P.cellsOf e := by rw [← hl2]; exact (List.getElem?_eq_some_iff.1 hu).1
      have h3 := hg j hj
      rw [hu, Deep.add_add] at h3
      rw [hsp] at h3
      simpa [Addr.add_lit, Nat.add_assoc] using h3

/-- An argument of a struct's type: its cells. -/
theorem open_agg {r : Reach} {b0 : Nat} {t : TypeId} {fs : Array Field} {v : Value} {d : DataW H} {p : List MemPlace} (hs : P.underlying t = some (.struct fs)) (hv : Value.okWide P w r b0 t v) (h : DataW.Trod enc P w base spare held t v d p) :
    ∃ fuel l, v = .agg (List.toArray l) ∧ DataW.trod enc P w base spare held fuel t l = some (d, p) := by
  obtain ⟨cs, rfl, hsz⟩ := okWide_struct hs hv
  obtain ⟨fuel, hf⟩ := h
  exact ⟨fuel, cs.toList, by simp, hf⟩
theorem read_bool {t : TypeId} {fuel : Nat} {cs : List Value} {x : DataW H × List MemPlace} (ht : P.underlying t = some .bool) (h : DataW.trod enc P w base spare held fuel t cs = some x) : ∃ b : Bool, cs = [.bool b] := by
  obtain ⟨b, h1, _⟩ := DataW.trod_bool ht h; exact ⟨b, h1⟩
theorem read_int {t : TypeId} {k : IntKind} {fuel : Nat} {cs : List Value} {x : DataW H × List MemPlace} (ht : P.underlying t = some (.int k)) (h : DataW.trod enc P w base spare held fuel t cs = some x) : ∃ n : Int, cs = [.int k n] ∧ (Lit.int k n).wf = true := by
  obtain ⟨n, h1, _, h2⟩ := DataW.trod_int ht h; exact ⟨n, h1, h2⟩
theorem read_string {t : TypeId} {fuel : Nat} {cs : List Value} {x : DataW H × List MemPlace} (ht : P.underlying t = some .string) (h : DataW.trod enc P w base spare held fuel t cs = some x) : ∃ s : ByteArray, cs = [.string s] ∧ s.size ≤ maxLen := by
  obtain ⟨s, h1, _, h2⟩ := DataW.trod_string ht h; exact ⟨s, h1, h2⟩

/-- A slice of bools. -/
theorem read_bools {t e : TypeId} {fuel : Nat} {cs : List Value} {x : DataW H × List MemPlace} (ht : P.underlying t = some (.slice e)) (he : P.underlying e = some .bool) (hc : P.cellsOf e = 1) (h : DataW.trod enc P w base spare held fuel t cs = some x) :
    ∃ v bs, cs = [v] ∧ RdS w v 1 (fun cs (b : Bool) => cs = [.bool b]) bs := by
  have := read_slice ht (by omega) (fun cs (b : Bool) => cs = [.bool b]) (fun n cs x hx => read_bool he hx) h
  rwa [hc] at this
end

theorem RdS.get {α : Type} {w : World} {v : Value} {size : Nat} {Q : List Value → α → Prop} {as : List α} (h : RdS w v size Q as) {k : Nat} (hk : k < as.length) :
    ∃ g o cap cs, v = .slice (some ⟨g, o, none⟩) as.length cap ∧ as.length ≤ cap ∧ cap ≤ maxLen ∧ cs.length = size ∧ (∀ j u, cs[j]? = some u → w.cell? ⟨g, o + k * size + j, none⟩ = some u) ∧ Q cs as[k] := by
  obtain ⟨p, cap, rfl, h1, h2, h3⟩ := h
  obtain ⟨g, o, rfl, h3'⟩ := h3.resolve_left (by omega)
  obtain ⟨cs, h4, h5, h6⟩ := h3' k hk
  exact ⟨g, o, cap, cs, rfl, h1, h2, h4, h5, h6⟩
theorem RdS.form {α : Type} {w : World} {v : Value} {size : Nat} {Q : List Value → α → Prop} {as : List α} (h : RdS w v size Q as) : ∃ p cap, v = .slice p as.length cap ∧ as.length ≤ cap ∧ cap ≤ maxLen := by
  obtain ⟨p, cap, rfl, h1, h2, _⟩ := h
  exact ⟨p, cap, rfl, h1, h2⟩
theorem RdS.bools {w : World} {v : Value} {bs : List Bool} (h : RdS w v 1 (fun cs (b : Bool) => cs = [.bool b]) bs) : Rd w v (bools bs) ∧ bs.length ≤ maxLen := by
  obtain ⟨p, cap, rfl, h1, h2, h3⟩ := h
  refine ⟨⟨p, cap, by rw [bools_len], by rw [bools_len]; exact h1, ?_⟩, by omega⟩
  rcases h3 with h3 | ⟨g, o, rfl, h3⟩
  · exact .inl (by rw [bools_len]; exact h3)
  · refine .inr ⟨g, o, rfl, fun k u hu => ?_⟩
    have hk : k < bs.length := by rw [← bools_len]; exact (List.getElem?_eq_some_iff.1 hu).1
    obtain ⟨cs, h4, h5, rfl⟩ := h3 k hk
    rw [bools_get bs hk] at hu
    cases hu
    have := h5 0 (.bool bs[k]) rfl
    simpa [List.getD_eq_getElem?_getD, hk] using this

/-! ### the close of a law -/
section
variable {H : Type} {enc : TypeId × Value → H} {P : Program}
theorem trodAll_stays (hl : laidOutB P = true) {W W' : World} (hb : Below W.heap.size W W') : ∀ {ts : List TypeId} {vs : List Value} {ds : List (DataW H)} {ps : List MemPlace},
    (∀ t, t ∈ ts → P.readableRec t = true ∧ t < P.types.size) → DataW.TrodAll enc P W 0 (fun _ => true) true ts vs ds ps → (∀ x, x ∈ ps → x.block < W.heap.size) →
    DataW.TrodAll enc P W' 0 (fun b => decide (b < W.heap.size)) true ts vs ds ps
  | [], [], [], _, _, h, _ => h
  | t :: ts, v :: vs, d :: ds, _, hr, ⟨p, q, h1, h2, rfl⟩, hlt =>
    ⟨p, q, Below.trod hl (hr t (by simp)).1 (hr t (by simp)).2 h1 hb (fun x hx => hlt x (by simp [hx])), trodAll_stays hl hb (fun t' ht' => hr t' (by simp [ht'])) h2 (fun x hx => hlt x (by simp [hx])), rfl⟩
  | [], [], _ :: _, _, _, h, _ => h.elim
  | [], _ :: _, _, _, _, h, _ => by cases h
  | _ :: _, [], _, _, _, h, _ => by cases h
  | _ :: _, _ :: _, [], _, _, h, _ => by cases h

theorem law_post {f : Func} {s : ChangeSpec} {W W' : World} {args : Array Value} {ds gs : List (DataW H)} {before : List MemPlace} {tb : TypeId}
    (hl : laidOutB P = true) (hr : ∀ t, t ∈ f.params.toList → P.readableRec t = true ∧ t < P.types.size) (hv : s.vars = []) (hbt : P.underlying tb = some .bool) (hres : f.resultTypes = #[tb])
    (hW : DataW.Whole enc P f.params.toList s.vars false W args.toList ds gs before) (hfn : s.fn H (ds ++ gs) = { results := [.lit (.bool true)], args := ds }) (hb : Fr [] W W') :
    s.post enc P f false true false false W args (.bool true) W' := by
  have hlt : ∀ x, x ∈ before → x.block < W.heap.size := fun x hx => hW.lt x hx
  obtain ⟨p, q, hA, hV, rfl, hz, hn⟩ := hW
  have hq : q = [] := by
    rw [hv] at hV
    cases gs with
    | nil => exact hV
    | cons g gs => exact hV.elim
  subst hq
  refine ⟨ds, gs, p ++ [], [], p, [], ⟨p, [], hA, hV, rfl, hz, hn⟩, ?_, ?_, ?_, World.keptBut_mono (fun _ h => h.elim) (hb.below.frame (fun _ => False)), fun h => by cases h⟩
  · rw [hfn, hres]
    exact trodAll_cons_mk (shut_bool hbt true) trodAll_mk0
  · rw [hfn]
    exact trodAll_stays hl hb.below hr hA (fun x hx => hlt x (by simp [hx]))
  · rw [hfn]
    rw [hv] at hV ⊢
    cases gs with
    | nil => rfl
    | cons g gs => exact hV.elim
end
end Go.Proofs.YtbpgpjibljgiiaaGreatDoor
namespace Go.Proofs.YtbpgpjibljgiiaaGreatDoor
open Go.RowKit
set_option linter.unusedVariables false

/-- A slice of n elements, 'size' cells each, that reads zs these cells; nil or not. -/
def RdF (w : World) (v : Value) (n size : Nat) (vs : List Value) : Prop :=
  ∃ p cap, v = .slice p n cap ∧ n ≤ cap ∧ cap ≤ maxLen ∧ vs.length = n * size ∧ (n = 0 ∨ ∃ g o, p = some ⟨g, o, none⟩ ∧ ∀ j u, vs[j]? = some u → w.cell? ⟨g, o + j, none⟩ = some u)
section
variable {w w' : World} {v : Value} {n size : Nat} {vs : List Value}
theorem RdF.grow (h : RdF w v n size vs) (hf : Fr [] w w') : RdF w' v n size vs := by
  obtain ⟨p, cap, rfl, h1, h2, h3, h4⟩ := h
  refine ⟨p, cap, rfl, h1, h2, h3, ?_⟩
  rcases h4 with h4 | ⟨g, o, rfl, h4⟩
  · exact .inl h4
  · exact .inr ⟨g, o, rfl, fun j u hj => (hf.cell (World.block_lt_of_cell? w _ (h4 j u hj)) (by simp)).trans (h4 j u hj)⟩
theorem RdF.fr {S : List Nat} (h : RdF w v n size vs) (hf : Fr S w w') (hs : ∀ g, v.ownBlock = some g → g ∉ S) : RdF w' v n size vs := by
  obtain ⟨p, cap, rfl, h1, h2, h3, h4⟩ := h
  refine ⟨p, cap, rfl, h1, h2, h3, ?_⟩
  rcases h4 with h4 | ⟨g, o, rfl, h4⟩
  · exact .inl h4
  · exact .inr ⟨g, o, rfl, fun j u hj => (hf.cell (World.block_lt_of_cell? w _ (h4 j u hj)) (hs g (by simp [Value.ownBlock]))).trans (h4 j u hj)⟩
theorem RdF.form (h : RdF w v n size vs) : ∃ p cap, v = .slice p n cap ∧ n ≤ cap ∧ cap ≤ maxLen := by
  obtain ⟨p, cap, rfl, h1, h2, _⟩ := h
  exact ⟨p, cap, rfl, h1, h2⟩
theorem RdF.pos (h : RdF w v n size vs) (hn : 0 < n) : ∃ g o cap, v = .slice (some ⟨g, o, none⟩) n cap ∧ n ≤ cap ∧ cap ≤ maxLen ∧ ∀ j u, vs[j]? = some u → w.cell? ⟨g, o + j, none⟩ = some u := by
  obtain ⟨p, cap, rfl, h1, h2, h3, h4⟩ := h
  obtain ⟨g, o, rfl, h5⟩ := h4.resolve_left (by omega)
  exact ⟨g, o, cap, rfl, h1, h2, h5⟩
theorem RdF.of_own {e : TypeId} (hz : 0 < size) (h : w.ownsRow 0 e size v n vs) (hc : n ≤ maxLen) : RdF w v n size vs := by
  have hl := h.1
  rcases h.2 with ⟨rfl, hn0⟩ | ⟨g, cap, cur, rfl, _, hg, hnc, hcm, hcs, _⟩
  · exact ⟨none, 0, by rw [hn0], by omega, by decide, hl, .inl hn0⟩
  · refine ⟨_, cap, rfl, hnc, hcm, hl, .inr ⟨g, 0, rfl, fun j u hj => ?_⟩⟩
    have := h.cells (g := g) rfl j u hj
    rw [Addr.add_lit] at this
    exact this
end
/-! ### elements by their cells -/
section
variable {α : Type} (enc : α → List Value)
theorem flatV_len {size : Nat} (h : ∀ a, (enc a).length = size) : ∀ zs : List α, (zs.flatMap enc).length = zs.length * size
  | [] => by simp
  | a :: zs => by rw [List.flatMap_cons, List.length_append, h, flatV_len h zs, List.length_cons, Nat.add_mul, Nat.one_mul, Nat.add_comm]
theorem flatV_get {size : Nat} (h : ∀ a, (enc a).length = size) : ∀ (zs : List α) (k j : Nat) (a : α), zs[k]? = some a → j < size → (zs.flatMap enc)[k * size + j]? = (enc a)[j]?
  | [], k, j, a, hk, hj => by simp at hk
  | b :: zs, 0, j, a, hk, hj => by
    simp at hk
    subst hk
    rw [Nat.zero_mul, Nat.zero_add, List.flatMap_cons, List.getElem?_append_left (by rw [h]; exact hj)]
  | b :: zs, k + 1, j, a, hk, hj => by
    rw [List.flatMap_cons, List.getElem?_append_right (by rw [h, Nat.add_mul]; omega), h, show (k + 1) * size + j - size = k * size + j by rw [Nat.add_mul]; omega]
    exact flatV_get h zs k j a (by simpa using hk) hj
theorem flatV_one (h1 : ∀ a, ∀ u ∈ enc a, u.oneCell' = true) (zs : List α) : ∀ u ∈ zs.flatMap enc, u.oneCell' = true := by
  intro u hu
  obtain ⟨a, _, h⟩ := List.mem_flatMap.1 hu
  exact h1 a u h
theorem RdF.at {w : World} {v : Value} {size : Nat} (h : ∀ a, (enc a).length = size) {zs : List α} (hr : RdF w v zs.length size (zs.flatMap enc)) {k : Nat} {a : α} (hk : zs[k]? = some a) :
    ∃ g o cap, v = .slice (some ⟨g, o, none⟩) zs.length cap ∧ zs.length ≤ cap ∧ cap ≤ maxLen ∧ ∀ j u, (enc a)[j]? = some u → w.cell? ⟨g, o + (k * size + j), none⟩ = some u := by
  have hl : k < zs.length := (List.getElem?_eq_some_iff.1 hk).1
  obtain ⟨g, o, cap, hv, h1, h2, h3⟩ := hr.pos (by omega)
  refine ⟨g, o, cap, hv, h1, h2, fun j u hj => h3 _ _ ?_⟩
  have hj' : j < size := by rw [← h a]; exact (List.getElem?_eq_some_iff.1 hj).1
  rw [flatV_get enc h zs k j a hk hj', hj]
theorem RdF.of_rds {w : World} {v : Value} {size : Nat} {Q : List Value → α → Prop} (h : ∀ a, (enc a).length = size) (hz : 0 < size) (hQ : ∀ cs a, Q cs a → cs = enc a) {zs : List α} (hr : RdS w v size Q zs) : RdF w v zs.length size (zs.flatMap enc) := by
  obtain ⟨p, cap, rfl, h1, h2, h3⟩ := hr
  refine ⟨p, cap, rfl, h1, h2, flatV_len enc h zs, ?_⟩
  rcases h3 with h3 | ⟨g, o, rfl, h3⟩
  · exact .inl h3
  · refine .inr ⟨g, o, rfl, fun j u hj => ?_⟩
    have hjl : j < zs.length * size := by rw [← flatV_len enc h zs]; exact (List.getElem?_eq_some_iff.1 hj).1
    have hk : j / size < zs.length := (Nat.div_lt_iff_lt_mul hz).2 hjl
    have hm : j % size < size := Nat.mod_lt _ hz
    have hjm : j / size * size + j % size = j := Nat.div_add_mod' j size
    obtain ⟨cs, hc1, hc2, hc3⟩ := h3 (j / size) hk
    have e := flatV_get enc h zs (j / size) (j % size) zs[j / size] (List.getElem?_eq_getElem hk) hm
    rw [hjm, hj, ← hQ _ _ hc3] at e
    have := hc2 (j % size) u e.symm
    rwa [Nat.add_assoc, hjm] at this
end
/-! ### append -/
section
variable {P : Program}
theorem run_app_nil (w : World) (t ty e : TypeId) (i : TypeInfo) (size : Nat) (ht : P.underlying t = some (.slice e)) (hi : P.info? e = some i)
    (v : Value) (n : Nat) (xs : List Value) (hown : w.ownsRow 0 e size v n xs) (c : Nat) : (Builtin.append_ #[t, t] ty #[v, .slice none 0 c]).run P w = .ok v w := by
  rcases hown.2 with ⟨rfl, rfl⟩ | ⟨g, cap, cur, rfl, _, _, hnc, _⟩
  · simp [Builtin.append_, run_underlying ht, sizeOf, typeInfo, hi, Builtin.lenOf, Builtin.firstCells]
  · simp [Builtin.append_, run_underlying ht, sizeOf, typeInfo, hi, Builtin.lenOf, Builtin.firstCells, hnc, storeCells]
theorem run_appF (w : World) (t ty e : TypeId) (i : TypeInfo) (z : Value) (size bytes : Nat) (ht : P.underlying t = some (.slice e)) (hi : P.info? e = some i) (hz : i.zero = some z) (hsize : i.size = size) (hby : i.bytes = bytes) (hzs : z.cells.size = size) (hsz : 0 < size)
    (v : Value) (k : Nat) (xs : List Value) (hown : w.ownsRow 0 e size v k xs) (xv : Value) (m : Nat) (news : List Value) (hr : RdF w xv m size news) (h1c : ∀ u ∈ news, u.oneCell' = true) (b1 : k + m ≤ maxLen) (b2 : (k + m) * bytes ≤ 140737488355328) :
    ∃ v' w', (Builtin.append_ #[t, t] ty #[v, xv]).run P w = .ok v' w' ∧ Appended w e size v (k + m) (xs ++ news) v' w' := by
  obtain ⟨p, cap, rfl, hc, hm, hl, h0⟩ := hr
  have hmk : ∀ ad : Addr, p = some ad → (∀ j u, news[j]? = some u → w.cell? (ad.add j) = some u) → ∃ v' w', (Builtin.append_ #[t, t] ty #[v, .slice p m cap]).run P w = .ok v' w' ∧ Appended w e size v (k + m) (xs ++ news) v' w' := by
    rintro ad rfl hcells
    obtain ⟨v', w', hrun, r1, r2, -⟩ := run_append_own (P := P) w 0 t ty e i z size bytes ht hi hz hsize hby hzs hsz v k xs hown ad m cap news hl hcells h1c b1 b2 (Nat.zero_le _)
    have r4 := run_app_where w t ty e i z size bytes ht hi hz hsize hby v k xs hown ad m cap news hl hcells h1c b1 b2 v' w' hrun
    exact ⟨v', w', hrun, r1, r2, r4⟩
  rcases h0 with h0 | ⟨g, o, rfl, h0⟩
  · subst h0
    have hn : news = [] := List.eq_nil_of_length_eq_zero (by simpa using hl)
    subst hn
    cases p with
    | some ad => exact hmk ad rfl (fun j u hj => by simp at hj)
    | none =>
      refine ⟨v, w, run_app_nil w t ty e i size ht hi v k xs hown cap, ⟨by simpa using hown, World.grownBy.refl w _, .inl rfl⟩⟩
  · exact hmk _ rfl fun j u hj => by
      rw [Addr.add_mid]
      exact h0 j u hj
theorem wpList_appF (w : World) {ops : Array Oper} {rest : List Oper} {o : Oper} {a : Act} {Q : Exit → Act → World → Prop}
    (hg : o.guard = none) (s x : Operand) (t : TypeId) (hop : o.op = Op.call { callee := Callee.builtin Builtin.append, args := #[s, x], argTypes := #[t, t] })
    (e : TypeId) (z : Value) (size bytes : Nat) (h1 : P.underlying t = some (.slice e)) (h2 : (P.info? e).map (fun i => (i.zero, i.size, i.bytes)) = some (some z, size, bytes)) (h6 : z.cells.size = size) (h7 : 0 < size)
    (v : Value) (k : Nat) (xs : List Value) (hs : a.eval s = v) (hown : w.ownsRow 0 e size v k xs) (xv : Value) (m : Nat) (news : List Value) (hx : a.eval x = xv) (hr : RdF w xv m size news)
    (h1c : ∀ u ∈ news, u.oneCell' = true) (b1 : k + m ≤ maxLen) (b2 : (k + m) * bytes ≤ 140737488355328)
    (hK : ∀ v' w', Appended w e size v (k + m) (xs ++ news) v' w' → wpList P ops Q rest (a.put o.dst v') w') :
    wpList P ops Q (o :: rest) a w := by
  obtain ⟨i, hi, hz, hsz, hby⟩ := info_parts h2
  refine wpList_plain hg fun K hK' => ?_
  obtain ⟨v', w', hrun, hap⟩ := run_appF (P := P) w t o.type e i z size bytes h1 hi hz hsz hby h6 h7 v k xs hown xv m news hr h1c b1 b2
  unfold Oper.wp execOp
  simp only [hop, resolve, invoke, builtin, Sem.run_bind, Sem.run_pure, Result.andThen_ok, List.map_toArray, List.map_cons, List.map_nil, hs, hx, hrun]
  exact hK' _ _ (hK v' w' hap)
theorem wpListIn_appF {F : Fence} {n : Nat} (w : World) {ops : Array Oper} {rest : List Oper} {o : Oper} {a : Act} {Q : Exit → Act → World → Prop}
    (hg : o.guard = none) (s x : Operand) (t : TypeId) (hop : o.op = Op.call { callee := Callee.builtin Builtin.append, args := #[s, x], argTypes := #[t, t] })
    (e : TypeId) (z : Value) (size bytes : Nat) (h1 : P.underlying t = some (.slice e)) (h2 : (P.info? e).map (fun i => (i.zero, i.size, i.bytes)) = some (some z, size, bytes)) (h6 : z.cells.size = size) (h7 : 0 < size)
    (v : Value) (k : Nat) (xs : List Value) (hs : a.eval s = v) (hown : w.ownsRow 0 e size v k xs) (xv : Value) (m : Nat) (news : List Value) (hx : a.eval x = xv) (hr : RdF w xv m size news)
    (h1c : ∀ u ∈ news, u.oneCell' = true) (b1 : k + m ≤ maxLen) (b2 : (k + m) * bytes ≤ 140737488355328)
    (hK : ∀ v' w', Appended w e size v (k + m) (xs ++ news) v' w' → wpListIn F n P ops Q rest (a.put o.dst v') w') :
    wpListIn F n P ops Q (o :: rest) a w := by
  obtain ⟨i, hi, hz, hsz, hby⟩ := info_parts h2
  refine wpListIn_plain hg fun K hK' => ?_
  obtain ⟨v', w', hrun, hap⟩ := run_appF (P := P) w t o.type e i z size bytes h1 hi hz hsz hby h6 h7 v k xs hown xv m news hr h1c b1 b2
  unfold Oper.wpIn
  refine ⟨?_, ?_⟩
  · simp [Oper.about, hop, resolve, Target.leads, Sem.run_pure]
  · rw [Oper.semAt_plain F _ _ (by rw [hop]; intro c hc'; cases hc')]
    simp [execOp, hop, resolve, invoke, builtin, hs, hx, hrun, Result.andThen]
    exact hK' _ _ (hK v' w' hap)
end
end Go.Proofs.YtbpgpjibljgiiaaGreatDoor
namespace Go.Proofs.YtbpgpjibljgiiaaGreatDoor
open Go.RowKit
set_option linter.unusedVariables false

section
variable {P : Program} {ops : Array Oper} {Q : Exit → Act → World → Prop} {md : Region.Mode}

/-- An operation without a guard. -/
theorem wpOp_plain {i : Nat} {o : Oper} {K : Act → World → Prop} {a : Act} {w : World} (hi : ops[i]? = some o) (hg : o.guard = none) (h : ∀ K' : Act → World → Prop, (∀ a w, K a w → K' a w) → o.wp P a w K' Q) : wpOp P ops Q i K a w := by
  unfold wpOp
  rw [hi]
  have hw : Region.wanted o (yielded ops a.tmps) = true := by simp [Region.wanted, hg]
  simp only [hw, if_true]
  exact .inl (h K (fun _ _ h => h))
/-- How many are still to be done. -/
def todo (L : Array Bool) : Nat := L.toList.count false
theorem todo_set {L : Array Bool} {i : Nat} (h : L.getD i true = false) : todo (L.setIfInBounds i true) + 1 = todo L := by
  have hi : i < L.size := by
    rcases Nat.lt_or_ge i L.size with c | c
    · exact c
    · simp [Array.getElem?_eq_none c] at h
  have hb : L[i] = false := by simpa [hi] using h
  unfold todo
  rw [Array.toList_setIfInBounds]
  have hl : L.toList[i]'(by simpa using hi) = false := by simpa using hb
  have hc := List.count_set (l := L.toList) (a := true) (b := false) (i := i) (by simpa using hi)
  have hp : 0 < L.toList.count false := List.count_pos_iff.2 (by rw [← hl]; exact List.getElem_mem _)
  rw [hc, hl, if_pos (by decide), if_neg (by decide)]
  omega
theorem wpAny_inv {I : Array Bool → Act → World → Prop}
    (hstep : ∀ L a w i, I L a w → L.size = ops.size → i ∈ Region.ready md ops L → wpOp P ops Q i (I (L.setIfInBounds i true)) a w)
    (hend : ∀ L a w, I L a w → L.size = ops.size → Region.ready md ops L = [] → Q .normal a w) :
    ∀ (fuel : Nat) (L : Array Bool) (a : Act) (w : World), I L a w → L.size = ops.size → todo L ≤ fuel → wpAny P md ops Q fuel L a w
  | 0, L, a, w, hI, hs, ht => by
    have hr : Region.ready md ops L = [] := by
      refine List.eq_nil_iff_forall_not_mem.2 fun i hi => ?_
      have := todo_set (mem_ready.1 hi).1
      omega
    exact ⟨hr, hend L a w hI hs hr⟩
  | fuel + 1, L, a, w, hI, hs, ht => by
    refine ⟨fun hr => hend L a w hI hs hr, fun i hi => ?_⟩
    have := todo_set (mem_ready.1 hi).1
    exact wpOp_mono (fun a' w' h => wpAny_inv hstep hend fuel _ a' w' h (by simpa using hs) (by omega)) (hstep L a w i hI hs hi)
/-- Each operation waits for elder ones alone. -/
def waitsUp (ops : Array Oper) : Bool := (List.range ops.size).all fun i => match ops[i]? with
  | some o => o.after.all fun e => decide (e.on < i)
  | none => true
theorem all_done {L : Array Bool} (hu : waitsUp ops = true) (hs : L.size = ops.size) (hr : Region.ready md ops L = []) : ∀ i, i < ops.size → L.getD i false = true := by
  intro i
  induction i using Nat.strongRecOn with
  | _ i ih =>
    intro hi
    have hi' : i < L.size := by omega
    cases hb : L[i] with
    | true => simp [hi', hb]
    | false =>
      exfalso
      have hm : i ∈ Region.ready md ops L := by
        refine mem_ready.2 ⟨by simp [hi', hb], ops[i], by simp [hi], fun e he _ => ?_⟩
        have h1 := List.all_eq_true.1 hu i (by simpa using hi)
        rw [show ops[i]? = some ops[i] by simp [hi]] at h1
        have h2 := Array.all_eq_true'.1 h1 e he
        have h3 : e.on < i := by simpa using h2
        exact ih e.on h3 (by omega)
      rw [hr] at hm
      cases hm
/-- **A region that draws its order, by an invariant**: p: which operations are done. -/
theorem region_inv {id : Nat} {l : List Oper} {a : Act} {w : World} (hm : P.follows .mixedOrders = true) (hu : waitsUp l.toArray = true) (I : (Nat → Prop) → Act → World → Prop) (h0 : I (fun _ => False) a w.drew)
    (hstep : ∀ (p : Nat → Prop) (a : Act) (w : World) (i : Nat), i < l.length → ¬ p i → (∀ o, l.toArray[i]? = some o → ∀ e, e ∈ o.after → Region.binds .any e = true → p e.on) → I p a w → wpOp P l.toArray Q i (I (fun k => p k ∨ k = i)) a w)
    (hend : ∀ (p : Nat → Prop) (a : Act) (w : World), (∀ i, i < l.length → p i) → I p a w → Q .normal a w) : (Code.region id l.toArray true).wp P Q a w := by
  refine wp_region_any hm (wpAny_inv (I := fun L a w => I (fun k => L.getD k false = true) a w) ?_ ?_ _ _ _ _ ?_ (by simp) ?_)
  · intro L a w i hI hs hi
    obtain ⟨h1, o, ho, hd⟩ := mem_ready.1 hi
    have hil : i < l.toArray.size := (Array.getElem?_eq_some_iff.1 ho).1
    have hiL : i < L.size := by omega
    have hnp : ¬ L.getD i false = true := by
      simp [hiL] at h1 ⊢
      exact h1
    have := hstep _ a w i (by simpa using hil) hnp (fun o' ho' e he hb => hd e (by rw [ho] at ho'; cases ho'; exact he) hb) hI
    refine wpOp_mono (fun a' w' h => ?_) this
    have e : (fun k => (L.setIfInBounds i true).getD k false = true) = (fun k => L.getD k false = true ∨ k = i) := by
      funext k
      refine propext ?_
      by_cases hk : k = i
      · subst hk; simp [hiL]
      · simp [Ne.symm hk, hk]
    show I (fun k => (L.setIfInBounds i true).getD k false = true) a' w'
    rw [e]
    exact h
  · intro L a w hI hs hr
    exact hend _ a w (fun i hi => all_done hu hs hr i (by simpa using hi)) hI
  · have e : (fun k => (Array.replicate l.toArray.size false).getD k false = true) = (fun _ => False) := by
      funext k
      refine propext ⟨fun h => ?_, fun h => h.elim⟩
      rcases Nat.lt_or_ge k l.toArray.size with c | c
      · have hk : (Array.replicate l.toArray.size false)[k]? = some false := by rw [Array.getElem?_replicate, if_pos c]
        rw [Array.getD_eq_getD_getElem?, hk] at h
        cases h
      · rw [Array.getD_eq_getD_getElem?, Array.getElem?_eq_none (by simpa using c)] at h
        cases h
    show I (fun k => (Array.replicate l.toArray.size false).getD k false = true) a w.drew
    rw [e]
    exact h0
  · unfold todo
    exact Nat.le_trans List.count_le_length (by simp)
end
end Go.Proofs.YtbpgpjibljgiiaaGreatDoor
namespace Go.Proofs.YtbpgpjibljgiiaaGreatDoor
open Go.RowKit
set_option linter.unusedVariables false

section
variable {F : Fence} {n : Nat} {P : Program} {ops : Array Oper} {Q : Exit → Act → World → Prop} {md : Region.Mode}
/-- An operation without a guard. -/
theorem wpOpIn_plain {i : Nat} {o : Oper} {K : Act → World → Prop} {a : Act} {w : World} (hi : ops[i]? = some o) (hg : o.guard = none) (h : ∀ K' : Act → World → Prop, (∀ a w, K a w → K' a w) → o.wpIn F n P a w K' Q) : wpOpIn F n P ops Q i K a w := by
  unfold wpOpIn
  rw [hi]
  have hw : Region.wanted o (yielded ops a.tmps) = true := by simp [Region.wanted, hg]
  simp only [hw, if_true]
  exact h K (fun _ _ h => h)
theorem wpAnyIn_inv {I : Array Bool → Act → World → Prop}
    (hstep : ∀ L a w i, I L a w → L.size = ops.size → i ∈ Region.ready md ops L → wpOpIn F n P ops Q i (I (L.setIfInBounds i true)) a w)
    (hend : ∀ L a w, I L a w → L.size = ops.size → Region.ready md ops L = [] → Q .normal a w) :
    ∀ (fuel : Nat) (L : Array Bool) (a : Act) (w : World), I L a w → L.size = ops.size → todo L ≤ fuel → wpAnyIn F n P md ops Q fuel L a w
  | 0, L, a, w, hI, hs, ht => by
    have hr : Region.ready md ops L = [] := by
      refine List.eq_nil_iff_forall_not_mem.2 fun i hi => ?_
      have := todo_set (mem_ready.1 hi).1
      omega
    exact ⟨hr, hend L a w hI hs hr⟩
  | fuel + 1, L, a, w, hI, hs, ht => by
    refine ⟨fun hr => hend L a w hI hs hr, fun i hi => ?_⟩
    have := todo_set (mem_ready.1 hi).1
    exact wpOpIn_mono (fun a' w' h => wpAnyIn_inv hstep hend fuel _ a' w' h (by simpa using hs) (by omega)) (hstep L a w i hI hs hi)
/-- **A region that draws its order, by an invariant**: p: which operations are done. -/
theorem region_inv_in {id : Nat} {l : List Oper} {a : Act} {w : World} (hm : P.follows .mixedOrders = true) (hu : waitsUp l.toArray = true) (I : (Nat → Prop) → Act → World → Prop) (h0 : I (fun _ => False) a w.drew)
    (hstep : ∀ (p : Nat → Prop) (a : Act) (w : World) (i : Nat), i < l.length → ¬ p i → (∀ o, l.toArray[i]? = some o → ∀ e, e ∈ o.after → Region.binds .any e = true → p e.on) → I p a w → wpOpIn F n P l.toArray Q i (I (fun k => p k ∨ k = i)) a w)
    (hend : ∀ (p : Nat → Prop) (a : Act) (w : World), (∀ i, i < l.length → p i) → I p a w → Q .normal a w) : (Code.region id l.toArray true).wpIn F n P Q a w := by
  refine wpIn_region_any hm (wpAnyIn_inv (I := fun L a w => I (fun k => L.getD k false = true) a w) ?_ ?_ _ _ _ _ ?_ (by simp) ?_)
  · intro L a w i hI hs hi
    obtain ⟨h1, o, ho, hd⟩ := mem_ready.1 hi
    have hil : i < l.toArray.size := (Array.getElem?_eq_some_iff.1 ho).1
    have hiL : i < L.size := by omega
    have hnp : ¬ L.getD i false = true := by
      simp [hiL] at h1 ⊢
      exact h1
    have := hstep _ a w i (by simpa using hil) hnp (fun o' ho' e he hb => hd e (by rw [ho] at ho'; cases ho'; exact he) hb) hI
    refine wpOpIn_mono (fun a' w' h => ?_) this
    have e : (fun k => (L.setIfInBounds i true).getD k false = true) = (fun k => L.getD k false = true ∨ k = i) := by
      funext k
      refine propext ?_
      by_cases hk : k = i
      · subst hk; simp [hiL]
      · simp [Ne.symm hk, hk]
    show I (fun k => (L.setIfInBounds i true).getD k false = true) a' w'
    rw [e]
    exact h
  · intro L a w hI hs hr
    exact hend _ a w (fun i hi => all_done hu hs hr i (by simpa using hi)) hI
  · have e : (fun k => (Array.replicate l.toArray.size false).getD k false = true) = (fun _ => False) := by
      funext k
      refine propext ⟨fun h => ?_, fun h => h.elim⟩
      rcases Nat.lt_or_ge k l.toArray.size with c | c
      · have hk : (Array.replicate l.toArray.size false)[k]? = some false := by rw [Array.getElem?_replicate, if_pos c]
        rw [Array.getD_eq_getD_getElem?, hk] at h
        cases h
      · rw [Array.getD_eq_getD_getElem?, Array.getElem?_eq_none (by simpa using c)] at h
        cases h
    show I (fun k => (Array.replicate l.toArray.size false).getD k false = true) a w.drew
    rw [e]
    exact h0
  · unfold todo
    exact Nat.le_trans List.count_le_length (by simp)
end
end Go.Proofs.YtbpgpjibljgiiaaGreatDoor
namespace Go.Proofs.YtbpgpjibljgiiaaGreatDoor
open Go.RowKit
set_option linter.unusedVariables false
set_option linter.unusedSimpArgs false

section
variable {P : Program} {ops : Array Oper} {Q : Exit → Act → World → Prop}
/-- Each operation waits for elder ones alone (of what binds). -/
def waitsFor (ops : Array Oper) : Bool := (List.range ops.size).all fun i => match ops[i]? with
  | some o => o.after.all fun e => !Region.binds .any e || decide (e.on < i)
  | none => true
theorem all_done2 {L : Array Bool} (hu : waitsFor ops = true) (hs : L.size = ops.size) (hr : Region.ready .any ops L = []) : ∀ i, i < ops.size → L.getD i false = true := by
  intro i
  induction i using Nat.strongRecOn with
  | _ i ih =>
    intro hi
    have hi' : i < L.size := by omega
    cases hb : L[i] with
    | true => simp [hi', hb]
    | false =>
      exfalso
      have hm : i ∈ Region.ready .any ops L := by
        refine mem_ready.2 ⟨by simp [hi', hb], ops[i], by simp [hi], fun e he hb2 => ?_⟩
        have h1 := List.all_eq_true.1 hu i (by simpa using hi)
        rw [show ops[i]? = some ops[i] by simp [hi]] at h1
        have h2 := Array.all_eq_true'.1 h1 e he
        have h3 : e.on < i := by
          rw [hb2] at h2
          simpa using h2
        exact ih e.on h3 (by omega)
      rw [hr] at hm
      cases hm
/-- **A region that draws its order, by an invariant**: p: which operations are done. -/
theorem region_inv2 {id : Nat} {l : List Oper} {a : Act} {w : World} (hm : P.follows .mixedOrders = true) (hu : waitsFor l.toArray = true) (I : (Nat → Prop) → Act → World → Prop) (h0 : I (fun _ => False) a w.drew)
    (hstep : ∀ (p : Nat → Prop) (a : Act) (w : World) (i : Nat), i < l.length → ¬ p i → (∀ o, l.toArray[i]? = some o → ∀ e, e ∈ o.after → Region.binds .any e = true → p e.on) → I p a w → wpOp P l.toArray Q i (I (fun k => p k ∨ k = i)) a w)
    (hend : ∀ (p : Nat → Prop) (a : Act) (w : World), (∀ i, i < l.length → p i) → I p a w → Q .normal a w) : (Code.region id l.toArray true).wp P Q a w := by
  refine wp_region_any hm (wpAny_inv (I := fun L a w => I (fun k => L.getD k false = true) a w) ?_ ?_ _ _ _ _ ?_ (by simp) ?_)
  · intro L a w i hI hs hi
    obtain ⟨h1, o, ho, hd⟩ := mem_ready.1 hi
    have hil : i < l.toArray.size := (Array.getElem?_eq_some_iff.1 ho).1
    have hiL : i < L.size := by omega
    have hnp : ¬ L.getD i false = true := by
      simp [hiL] at h1 ⊢
      exact h1
    have := hstep _ a w i (by simpa using hil) hnp (fun o' ho' e he hb => hd e (by rw [ho] at ho'; cases ho'; exact he) hb) hI
    refine wpOp_mono (fun a' w' h => ?_) this
    have e : (fun k => (L.setIfInBounds i true).getD k false = true) = (fun k => L.getD k false = true ∨ k = i) := by
      funext k
      refine propext ?_
      by_cases hk : k = i
      · subst hk; simp [hiL]
      · simp [Ne.symm hk, hk]
    show I (fun k => (L.setIfInBounds i true).getD k false = true) a' w'
    rw [e]
    exact h
  · intro L a w hI hs hr
    exact hend _ a w (fun i hi => all_done2 hu hs hr i (by simpa using hi)) hI
  · have e : (fun k => (Array.replicate l.toArray.size false).getD k false = true) = (fun _ => False) := by
      funext k
      refine propext ⟨fun h => ?_, fun h => h.elim⟩
      rcases Nat.lt_or_ge k l.toArray.size with c | c
      · have hk : (Array.replicate l.toArray.size false)[k]? = some false := by rw [Array.getElem?_replicate, if_pos c]
        rw [Array.getD_eq_getD_getElem?, hk] at h
        cases h
      · rw [Array.getD_eq_getD_getElem?, Array.getElem?_eq_none (by simpa using c)] at h
        cases h
    show I (fun k => (Array.replicate l.toArray.size false).getD k false = true) a w.drew
    rw [e]
    exact h0
  · unfold todo
    exact Nat.le_trans List.count_le_length (by simp)
end
section
variable {F : Fence} {n : Nat} {P : Program} {ops : Array Oper} {Q : Exit → Act → World → Prop}
/-- **A region that draws its order, by an invariant**: p: which operations are done. -/
theorem region_inv_in2 {id : Nat} {l : List Oper} {a : Act} {w : World} (hm : P.follows .mixedOrders = true) (hu : waitsFor l.toArray = true) (I : (Nat → Prop) → Act → World → Prop) (h0 : I (fun _ => False) a w.drew)
    (hstep : ∀ (p : Nat → Prop) (a : Act) (w : World) (i : Nat), i < l.length → ¬ p i → (∀ o, l.toArray[i]? = some o → ∀ e, e ∈ o.after → Region.binds .any e = true → p e.on) → I p a w → wpOpIn F n P l.toArray Q i (I (fun k => p k ∨ k = i)) a w)
    (hend : ∀ (p : Nat → Prop) (a : Act) (w : World), (∀ i, i < l.length → p i) → I p a w → Q .normal a w) : (Code.region id l.toArray true).wpIn F n P Q a w := by
  refine wpIn_region_any hm (wpAnyIn_inv (I := fun L a w => I (fun k => L.getD k false = true) a w) ?_ ?_ _ _ _ _ ?_ (by simp) ?_)
  · intro L a w i hI hs hi
    obtain ⟨h1, o, ho, hd⟩ := mem_ready.1 hi
    have hil : i < l.toArray.size := (Array.getElem?_eq_some_iff.1 ho).1
    have hiL : i < L.size := by omega
    have hnp : ¬ L.getD i false = true := by
      simp [hiL] at h1 ⊢
      exact h1
    have := hstep _ a w i (by simpa using hil) hnp (fun o' ho' e he hb => hd e (by rw [ho] at ho'; cases ho'; exact he) hb) hI
    refine wpOpIn_mono (fun a' w' h => ?_) this
    have e : (fun k => (L.setIfInBounds i true).getD k false = true) = (fun k => L.getD k false = true ∨ k = i) := by
      funext k
      refine propext ?_
      by_cases hk : k = i
      · subst hk; simp [hiL]
      · simp [Ne.symm hk, hk]
    show I (fun k => (L.setIfInBounds i true).getD k false = true) a' w'
    rw [e]
    exact h
  · intro L a w hI hs hr
    exact hend _ a w (fun i hi => all_done2 hu hs hr i (by simpa using hi)) hI
  · have e : (fun k => (Array.replicate l.toArray.size false).getD k false = true) = (fun _ => False) := by
      funext k
      refine propext ⟨fun h => ?_, fun h => h.elim⟩
      rcases Nat.lt_or_ge k l.toArray.size with c | c
      · have hk : (Array.replicate l.toArray.size false)[k]? = some false := by rw [Array.getElem?_replicate, if_pos c]
        rw [Array.getD_eq_getD_getElem?, hk] at h
        cases h
      · rw [Array.getD_eq_getD_getElem?, Array.getElem?_eq_none (by simpa using c)] at h
        cases h
    show I (fun k => (Array.replicate l.toArray.size false).getD k false = true) a w.drew
    rw [e]
    exact h0
  · unfold todo
    exact Nat.le_trans List.count_le_length (by simp)
end

/-- The slot that an operation writes. -/
def slotOf (l : List Oper) (i : Nat) : Option Tmp := (l[i]?).bind (·.dst)
/-- Each slot is written once, and lies in the frame. -/
def slotsOk (l : List Oper) (N : Nat) : Bool :=
  ((List.range l.length).all fun i => (List.range l.length).all fun j => i == j || slotOf l i == none || slotOf l i != slotOf l j) &&
  ((List.range l.length).all fun i => ((slotOf l i).map fun d => decide (d < N)).getD true)
theorem slots_ne {l : List Oper} {N : Nat} (h : slotsOk l N = true) {i j d : Nat} (hi : i < l.length) (hj : j < l.length) (h1 : slotOf l i = some d) (h2 : slotOf l j = some d) : i = j := by
  have h3 := (Bool.and_eq_true _ _ ▸ h : _ ∧ _).1
  have h4 := List.all_eq_true.1 (List.all_eq_true.1 h3 i (List.mem_range.2 hi)) j (List.mem_range.2 hj)
  rw [h1, h2] at h4
  simpa using h4
theorem slots_lt {l : List Oper} {N : Nat} (h : slotsOk l N = true) {i d : Nat} (hi : i < l.length) (h1 : slotOf l i = some d) : d < N := by
  have h3 := (Bool.and_eq_true _ _ ▸ h : _ ∧ _).2
  have h4 := List.all_eq_true.1 h3 i (List.mem_range.2 hi)
  rw [h1] at h4
  simpa using h4

/-- What a fact about a slot says goes on where nothing turns. -/
structure Stab where
  says : Value → World → Prop
  stays : ∀ u W W', Fr [] W W' → says u W → says u W'
def Stab.is (v : Value) : Stab := ⟨fun u _ => u = v, fun _ _ _ _ h => h⟩
def Stab.any : Stab := ⟨fun _ _ => True, fun _ _ _ _ h => h⟩

/-- What is sure in the midst of a region: p: which operations are done; Φ: the facts of their slots. -/
structure Reg (l : List Oper) (a0 : Act) (Φ : List Stab) (w0 : World) (p : Nat → Prop) (a : Act) (W : World) : Prop where
  size : a.tmps.size = a0.tmps.size
  defers : a.defers = a0.defers
  same : ∀ t, (∀ i, i < l.length → p i → slotOf l i ≠ some t) → a.tmps[t]? = a0.tmps[t]?
  facts : ∀ i d, p i → slotOf l i = some d → ∃ v, a.tmps[d]? = some v ∧ (Φ.getD i Stab.any).says v W
  grown : Fr [] w0 W
  inside : ∀ i, p i → i < l.length
  closed : ∀ i, p i → ∀ o, l.toArray[i]? = some o → ∀ e, e ∈ o.after → Region.binds .any e = true → p e.on

section
variable {l : List Oper} {a0 a : Act} {Φ : List Stab} {w0 W W' : World} {p : Nat → Prop}
/-- A slot's fact. -/
theorem Reg.get (h : Reg l a0 Φ w0 p a W) (i d : Nat) (hp : p i) (hd : slotOf l i = some d) : ∃ v, a.tmps[d]? = some v ∧ (Φ.getD i Stab.any).says v W := h.facts i d hp hd
theorem Reg.val (h : Reg l a0 Φ w0 p a W) {v : Value} (i d : Nat) (hp : p i) (hd : slotOf l i = some d) (hv : Φ.getD i Stab.any = Stab.is v) : a.tmps[d]? = some v := by
  obtain ⟨u, h1, h2⟩ := h.facts i d hp hd
  rw [hv] at h2
  rw [h1, show u = v from h2]
/-- A slot that no operation writes. -/
theorem Reg.old (h : Reg l a0 Φ w0 p a W) (t : Nat) (hn : ((List.range l.length).all fun i => slotOf l i != some t) = true) : a.tmps[t]? = a0.tmps[t]? :=
  h.same t fun i hi _ hs => by
    have := List.all_eq_true.1 hn i (List.mem_range.2 hi)
    rw [hs] at this
    simp at this
/-- A slot that an operation writes that is not done. -/
theorem Reg.yet (h : Reg l a0 Φ w0 p a W) (N : Nat) (hs : slotsOk l N = true) (t j : Nat) (hj : j < l.length) (hjt : slotOf l j = some t) (hnp : ¬ p j) : a.tmps[t]? = a0.tmps[t]? :=
  h.same t fun i hi hp h1 => by
    have := slots_ne hs hi hj h1 hjt
    subst this
    exact hnp hp
theorem Reg.step (h : Reg l a0 Φ w0 p a W) (N : Nat) (hN : a0.tmps.size = N) (hs : slotsOk l N = true) {i : Nat} (hi : i < l.length) (hd : ∀ o, l.toArray[i]? = some o → ∀ e, e ∈ o.after → Region.binds .any e = true → p e.on) {v : Value} (f : Fr [] W W') (hv : (Φ.getD i Stab.any).says v W') :
    Reg l a0 Φ w0 (fun k => p k ∨ k = i) (a.put (slotOf l i) v) W' := by
  have hsz : (a.put (slotOf l i) v).tmps.size = a.tmps.size := by
    unfold Act.put
    cases slotOf l i <;> simp
  refine ⟨hsz.trans h.size, ?_, fun t ht => ?_, fun j d hj hjd => ?_, h.grown.trans f (by simp), fun j hj => ?_, fun j hj o ho e he hb => ?_⟩
  · unfold Act.put
    cases slotOf l i <;> exact h.defers
  · have h1 := h.same t (fun j hj hpj => ht j hj (.inl hpj))
    have h2 := ht i hi (.inr rfl)
    unfold Act.put
    cases hsl : slotOf l i with
    | none => exact h1
    | some d =>
      have : d ≠ t := fun e => h2 (by rw [hsl, e])
      simpa [Array.getElem?_setIfInBounds_ne this] using h1
  · by_cases hji : j = i
    · subst hji
      have hlt := slots_lt hs hi hjd
      refine ⟨v, ?_, hv⟩
      unfold Act.put
      rw [hjd]
      have : d < a.tmps.size := by rw [h.size, hN]; exact hlt
      simp [Array.getElem?_setIfInBounds, this]
    · have hpj : p j := hj.resolve_right hji
      obtain ⟨u, hu, hf⟩ := h.facts j d hpj hjd
      refine ⟨u, ?_, (Φ.getD j Stab.any).stays u W W' f hf⟩
      unfold Act.put
      cases hsl : slotOf l i with
      | none => exact hu
      | some d' =>
        have : d' ≠ d := fun e => hji (slots_ne hs (h.inside j hpj) hi hjd (by rw [hsl, e]))
        simpa [Array.getElem?_setIfInBounds_ne this] using hu
  · rcases hj with hj | hj
    · exact h.inside j hj
    · rw [hj]; exact hi
  · rcases hj with hj | hj
    · exact .inl (h.closed j hj o ho e he hb)
    · rw [hj] at ho; exact .inl (hd o ho e he hb)
/-- The frame behind the region. -/
def laid (l : List Oper) (vs : Nat → Value) (tm : Array Value) : Array Value := (List.range l.length).foldl (fun t i => match slotOf l i with | some d => t.setIfInBounds d (vs i) | none => t) tm
def slots (l : List Oper) : List (Nat × Tmp) := (List.range l.length).filterMap fun i => (slotOf l i).map fun d => (i, d)
def lay (ds : List (Nat × Tmp)) (vs : Nat → Value) (tm : Array Value) : Array Value := ds.foldl (fun t x => t.setIfInBounds x.2 (vs x.1)) tm
theorem laid_foldl_lay (l : List Oper) (vs : Nat → Value) : ∀ (js : List Nat) (tm : Array Value), (js.foldl (fun t i => match slotOf l i with | some d => t.setIfInBounds d (vs i) | none => t) tm) = lay (js.filterMap fun i => (slotOf l i).map fun d => (i, d)) vs tm
  | [], tm => rfl
  | j :: js, tm => by
    rw [List.foldl_cons, laid_foldl_lay l vs js]
    cases hs : slotOf l j with
    | none => simp [hs, lay]
    | some d => simp [hs, lay]
theorem laid_lay {l : List Oper} {ds : List (Nat × Tmp)} (h : slots l = ds) (vs : Nat → Value) (tm : Array Value) : laid l vs tm = lay ds vs tm := by
  rw [← h]
  exact laid_foldl_lay l vs _ tm
theorem laid_foldl_size (l : List Oper) (vs : Nat → Value) : ∀ (js : List Nat) (tm : Array Value), (js.foldl (fun t i => match slotOf l i with | some d => t.setIfInBounds d (vs i) | none => t) tm).size = tm.size
  | [], tm => rfl
  | j :: js, tm => by
    rw [List.foldl_cons, laid_foldl_size l vs js]
    cases slotOf l j <;> simp
theorem laid_foldl_other (l : List Oper) (vs : Nat → Value) (t : Nat) : ∀ (js : List Nat) (tm : Array Value), (∀ j, j ∈ js → slotOf l j ≠ some t) → (js.foldl (fun t i => match slotOf l i with | some d => t.setIfInBounds d (vs i) | none => t) tm)[t]? = tm[t]?
  | [], tm, _ => rfl
  | j :: js, tm, h => by
    rw [List.foldl_cons, laid_foldl_other l vs t js _ (fun k hk => h k (List.mem_cons_of_mem _ hk))]
    have := h j (List.mem_cons_self ..)
    cases hs : slotOf l j with
    | none => rfl
    | some d =>
      have : d ≠ t := fun e => this (by rw [hs, e])
      simp [Array.getElem?_setIfInBounds_ne this]
theorem laid_foldl_at (l : List Oper) (vs : Nat → Value) (N : Nat) (hs : slotsOk l N = true) (t i : Nat) (hi : i < l.length) (ht : slotOf l i = some t) : ∀ (js : List Nat) (tm : Array Value), tm.size = N → (∀ j, j ∈ js → j < l.length) → js.Nodup → i ∈ js → (js.foldl (fun t i => match slotOf l i with | some d => t.setIfInBounds d (vs i) | none => t) tm)[t]? = some (vs i)
  | [], _, _, _, _, h => by cases h
  | j :: js, tm, hN, hl, hn, h => by
    rw [List.foldl_cons]
    have hnd := List.nodup_cons.1 hn
    by_cases hji : i = j
    · subst hji
      rw [laid_foldl_other l vs t js _ (fun k hk hkt => hnd.1 (by rw [← slots_ne hs (hl k (List.mem_cons_of_mem _ hk)) hi hkt ht]; exact hk)), ht]
      have : t < tm.size := by rw [hN]; exact slots_lt hs hi ht
      simp [Array.getElem?_setIfInBounds, this]
    · refine laid_foldl_at l vs N hs t i hi ht js _ ?_ (fun k hk => hl k (List.mem_cons_of_mem _ hk)) hnd.2 ((List.mem_cons.1 h).resolve_left hji)
      cases slotOf l j with
      | none => exact hN
      | some d => simpa using hN
theorem Reg.frame (h : Reg l a0 Φ w0 p a W) (N : Nat) (hN : a0.tmps.size = N) (hs : slotsOk l N = true) (hp : ∀ i, i < l.length → p i) :
    ∃ vs : Nat → Value, (∀ i d, i < l.length → slotOf l i = some d → (Φ.getD i Stab.any).says (vs i) W) ∧ a = { tmps := laid l vs a0.tmps, defers := a0.defers } := by
  have hx : ∀ i, ∃ v, i < l.length → ∀ d, slotOf l i = some d → a.tmps[d]? = some v ∧ (Φ.getD i Stab.any).says v W := fun i => by
    by_cases hi : i < l.length
    · cases hsl : slotOf l i with
      | none => exact ⟨undef, fun _ d hd => by cases hd⟩
      | some d =>
        obtain ⟨v, h1, h2⟩ := h.facts i d (hp i hi) hsl
        exact ⟨v, fun _ d' hd' => by cases hd'; exact ⟨h1, h2⟩⟩
    · exact ⟨undef, fun hi' => absurd hi' hi⟩
  obtain ⟨vs, hvs⟩ : ∃ vs : Nat → Value, ∀ i, i < l.length → ∀ d, slotOf l i = some d → a.tmps[d]? = some (vs i) ∧ (Φ.getD i Stab.any).says (vs i) W := ⟨fun i => (hx i).choose, fun i => (hx i).choose_spec⟩
  refine ⟨vs, fun i d hi hd => (hvs i hi d hd).2, ?_⟩
  have e1 : a.tmps = laid l vs a0.tmps := by
    refine Array.ext_getElem? fun t => ?_
    by_cases hex : ∃ i, i < l.length ∧ slotOf l i = some t
    · obtain ⟨i, hi, hit⟩ := hex
      rw [(hvs i hi t hit).1]
      exact (laid_foldl_at l vs N hs t i hi hit (List.range l.length) a0.tmps hN (fun j hj => List.mem_range.1 hj) List.nodup_range (List.mem_range.2 hi)).symm
    · have hno : ∀ i, i < l.length → slotOf l i ≠ some t := fun i hi hit => hex ⟨i, hi, hit⟩
      rw [h.same t (fun i hi _ => hno i hi)]
      exact (laid_foldl_other l vs t (List.range l.length) a0.tmps (fun j hj => hno j (List.mem_range.1 hj))).symm
  have e2 := h.defers
  cases a
  dsimp only at e1 e2
  rw [e1, e2]
end

section
variable {P : Program} {Q : Exit → Act → World → Prop} {l : List Oper} {a0 a : Act} {Φ : List Stab} {w0 W : World} {p : Nat → Prop}
/-- What an operation has to show: its slot's fact; nothing that was there has turned. -/
def Sets (l : List Oper) (Φ : List Stab) (i : Nat) (a : Act) (W : World) (K : Act → World → Prop) : Prop :=
  ∀ v W', Fr [] W W' → (Φ.getD i Stab.any).says v W' → K (a.put (slotOf l i) v) W'
/-- **A region that draws its order and only adds memory.** -/
theorem region_grow {id : Nat} {w : World} (hm : P.follows .mixedOrders = true) (hu : waitsFor l.toArray = true) (Φ : List Stab) (N : Nat) (hN : a0.tmps.size = N) (hs : slotsOk l N = true) (ds : List (Nat × Tmp)) (hds : slots l = ds)
    (hstep : ∀ (p : Nat → Prop) (a : Act) (W : World) (i : Nat), i < l.length → ¬ p i → (∀ o, l.toArray[i]? = some o → ∀ e, e ∈ o.after → Region.binds .any e = true → p e.on) → Reg l a0 Φ w p a W →
      ∀ K : Act → World → Prop, Sets l Φ i a W K → wpOp P l.toArray Q i K a W)
    (hend : ∀ (vs : Nat → Value) (W : World), Fr [] w W → (∀ i d, i < l.length → slotOf l i = some d → (Φ.getD i Stab.any).says (vs i) W) → Q .normal { tmps := lay ds vs a0.tmps, defers := a0.defers } W) : (Code.region id l.toArray true).wp P Q a0 w := by
  refine region_inv2 hm hu (Reg l a0 Φ w) ?_ ?_ ?_
  · exact ⟨rfl, rfl, fun _ _ => rfl, fun i d h => h.elim, (Fr.refl _ _).drew, fun _ h => h.elim, fun _ h => h.elim⟩
  · intro p a W i hi hn hd h
    exact hstep p a W i hi hn hd h _ (fun v W' f hv => h.step N hN hs hi hd f hv)
  · intro p a W hp h
    obtain ⟨vs, h1, rfl⟩ := h.frame N hN hs hp
    rw [laid_lay hds]
    exact hend vs W h.grown h1
/-- An operation whose guard lets it, or that has none. -/
theorem op_do {i : Nat} {o : Oper} {K : Act → World → Prop} (hi : l.toArray[i]? = some o) (hw : Region.wanted o (yielded l.toArray a.tmps) = true) (hK : Sets l Φ i a W K)
    (h : ∀ K' : Act → World → Prop, (∀ v W', Fr [] W W' → (Φ.getD i Stab.any).says v W' → K' (a.put o.dst v) W') → o.wp P a W K' Q) : wpOp P l.toArray Q i K a W := by
  unfold wpOp
  rw [hi]
  simp only [hw, if_true]
  refine .inl (h K fun v W' f hv => ?_)
  have hs : slotOf l i = o.dst := by
    unfold slotOf
    rw [show l[i]? = some o by simpa using hi]
    rfl
  rw [← hs]
  exact hK v W' f hv
/-- An operation whose guard keeps it back. -/
theorem op_skip {i : Nat} {o : Oper} {K : Act → World → Prop} (hi : l.toArray[i]? = some o) (hw : Region.wanted o (yielded l.toArray a.tmps) = false) (hK : Sets l Φ i a W K) (hv : (Φ.getD i Stab.any).says undef W) : wpOp P l.toArray Q i K a W := by
  unfold wpOp
  rw [hi]
  simp only [hw]
  have hs : slotOf l i = o.dst := by
    unfold slotOf
    rw [show l[i]? = some o by simpa using hi]
    rfl
  rw [← hs]
  exact hK undef W (Fr.refl _ _) hv
theorem wanted_none {o : Oper} {y : Nat → Option Bool} (h : o.guard = none) : Region.wanted o y = true := by simp [Region.wanted, h]
end

section
variable {F : Fence} {n : Nat} {P : Program} {Q : Exit → Act → World → Prop} {l : List Oper} {a0 a : Act} {Φ : List Stab} {w0 W : World} {p : Nat → Prop}
/-- .. within a fence. -/
theorem region_grow_in {id : Nat} {w : World} (hm : P.follows .mixedOrders = true) (hu : waitsFor l.toArray = true) (Φ : List Stab) (N : Nat) (hN : a0.tmps.size = N) (hs : slotsOk l N = true) (ds : List (Nat × Tmp)) (hds : slots l = ds)
    (hstep : ∀ (p : Nat → Prop) (a : Act) (W : World) (i : Nat), i < l.length → ¬ p i → (∀ o, l.toArray[i]? = some o → ∀ e, e ∈ o.after → Region.binds .any e = true → p e.on) → Reg l a0 Φ w p a W →
      ∀ K : Act → World → Prop, Sets l Φ i a W K → wpOpIn F n P l.toArray Q i K a W)
    (hend : ∀ (vs : Nat → Value) (W : World), Fr [] w W → (∀ i d, i < l.length → slotOf l i = some d → (Φ.getD i Stab.any).says (vs i) W) → Q .normal { tmps := lay ds vs a0.tmps, defers := a0.defers } W) : (Code.region id l.toArray true).wpIn F n P Q a0 w := by
  refine region_inv_in2 hm hu (Reg l a0 Φ w) ?_ ?_ ?_
  · exact ⟨rfl, rfl, fun _ _ => rfl, fun i d h => h.elim, (Fr.refl _ _).drew, fun _ h => h.elim, fun _ h => h.elim⟩
  · intro p a W i hi hn hd h
    exact hstep p a W i hi hn hd h _ (fun v W' f hv => h.step N hN hs hi hd f hv)
  · intro p a W hp h
    obtain ⟨vs, h1, rfl⟩ := h.frame N hN hs hp
    rw [laid_lay hds]
    exact hend vs W h.grown h1
theorem op_do_in {i : Nat} {o : Oper} {K : Act → World → Prop} (hi : l.toArray[i]? = some o) (hw : Region.wanted o (yielded l.toArray a.tmps) = true) (hK : Sets l Φ i a W K)
    (h : ∀ K' : Act → World → Prop, (∀ v W', Fr [] W W' → (Φ.getD i Stab.any).says v W' → K' (a.put o.dst v) W') → o.wpIn F n P a W K' Q) : wpOpIn F n P l.toArray Q i K a W := by
  unfold wpOpIn
  rw [hi]
  simp only [hw, if_true]
  refine h K fun v W' f hv => ?_
  have hs : slotOf l i = o.dst := by
    unfold slotOf
    rw [show l[i]? = some o by simpa using hi]
    rfl
  rw [← hs]
  exact hK v W' f hv
end

/-! ### .. where an operation also changes memory -/
/-- vals: the values of the slots that are known ahead; Ψ: what is sure of the world and of other slots. -/
structure RegC (l : List Oper) (a0 : Act) (vals : List (Option Value)) (Ψ : (Nat → Prop) → (Nat → Option Value) → World → Prop) (p : Nat → Prop) (a : Act) (W : World) : Prop where
  size : a.tmps.size = a0.tmps.size
  defers : a.defers = a0.defers
  same : ∀ t, (∀ i, i < l.length → p i → slotOf l i ≠ some t) → a.tmps[t]? = a0.tmps[t]?
  det : ∀ i d v, p i → slotOf l i = some d → vals.getD i none = some v → a.tmps[d]? = some v
  world : Ψ p (fun t => a.tmps[t]?) W
  inside : ∀ i, p i → i < l.length
  closed : ∀ i, p i → ∀ o, l.toArray[i]? = some o → ∀ e, e ∈ o.after → Region.binds .any e = true → p e.on
section
variable {l : List Oper} {a0 a : Act} {vals : List (Option Value)} {Ψ : (Nat → Prop) → (Nat → Option Value) → World → Prop} {W W' : World} {p : Nat → Prop}
theorem RegC.val (h : RegC l a0 vals Ψ p a W) {v : Value} (i d : Nat) (hp : p i) (hd : slotOf l i = some d) (hv : vals.getD i none = some v) : a.tmps[d]? = some v := h.det i d v hp hd hv
theorem RegC.old (h : RegC l a0 vals Ψ p a W) (t : Nat) (hn : ((List.range l.length).all fun i => slotOf l i != some t) = true) : a.tmps[t]? = a0.tmps[t]? :=
  h.same t fun i hi _ hs => by
    have := List.all_eq_true.1 hn i (List.mem_range.2 hi)
    rw [hs] at this
    simp at this
theorem RegC.yet (h : RegC l a0 vals Ψ p a W) (N : Nat) (hs : slotsOk l N = true) (t j : Nat) (hj : j < l.length) (hjt : slotOf l j = some t) (hnp : ¬ p j) : a.tmps[t]? = a0.tmps[t]? :=
  h.same t fun i hi hp h1 => by
    have := slots_ne hs hi hj h1 hjt
    subst this
    exact hnp hp
theorem put_at {tm : Array Value} {df : List Deferred} (d t : Nat) (v : Value) (ht : t < tm.size) : (Act.put { tmps := tm, defers := df } (some d) v).tmps[t]? = if t = d then some v else tm[t]? := by
  unfold Act.put
  by_cases h : t = d
  · subst h
    simp [Array.getElem?_setIfInBounds, ht]
  · rw [if_neg h]
    simp [Array.getElem?_setIfInBounds_ne (Ne.symm h)]
theorem RegC.step (h : RegC l a0 vals Ψ p a W) (N : Nat) (hN : a0.tmps.size = N) (hs : slotsOk l N = true) {i : Nat} (hi : i < l.length) (hd : ∀ o, l.toArray[i]? = some o → ∀ e, e ∈ o.after → Region.binds .any e = true → p e.on) {v : Value} (hv : ∀ u, vals.getD i none = some u → v = u)
    (hΨ : Ψ (fun k => p k ∨ k = i) (fun t => (a.put (slotOf l i) v).tmps[t]?) W') :
    RegC l a0 vals Ψ (fun k => p k ∨ k = i) (a.put (slotOf l i) v) W' := by
  have hsz : (a.put (slotOf l i) v).tmps.size = a.tmps.size := by
    unfold Act.put
    cases slotOf l i <;> simp
  refine ⟨hsz.trans h.size, ?_, fun t ht => ?_, fun j d u hj hjd hu => ?_, hΨ, fun j hj => ?_, fun j hj o ho e he hb => ?_⟩
  · unfold Act.put
    cases slotOf l i <;> exact h.defers
  · have h1 := h.same t (fun j hj hpj => ht j hj (.inl hpj))
    have h2 := ht i hi (.inr rfl)
    unfold Act.put
    cases hsl : slotOf l i with
    | none => exact h1
    | some d =>
      have : d ≠ t := fun e => h2 (by rw [hsl, e])
      simpa [Array.getElem?_setIfInBounds_ne this] using h1
  · by_cases hji : j = i
    · subst hji
      have hlt := slots_lt hs hi hjd
      have hvu := hv u hu
      subst hvu
      unfold Act.put
      rw [hjd]
      have : d < a.tmps.size := by rw [h.size, hN]; exact hlt
      simp [Array.getElem?_setIfInBounds, this]
    · have hpj : p j := hj.resolve_right hji
      have h1 := h.det j d u hpj hjd hu
      unfold Act.put
      cases hsl : slotOf l i with
      | none => exact h1
      | some d' =>
        have : d' ≠ d := fun e => hji (slots_ne hs (h.inside j hpj) hi hjd (by rw [hsl, e]))
        simpa [Array.getElem?_setIfInBounds_ne this] using h1
  · rcases hj with hj | hj
    · exact h.inside j hj
    · rw [hj]; exact hi
  · rcases hj with hj | hj
    · exact .inl (h.closed j hj o ho e he hb)
    · rw [hj] at ho; exact .inl (hd o ho e he hb)
theorem RegC.frame (h : RegC l a0 vals Ψ p a W) (N : Nat) (hN : a0.tmps.size = N) (hs : slotsOk l N = true) (hp : ∀ i, i < l.length → p i) :
    ∃ vs : Nat → Value, (∀ i d v, i < l.length → slotOf l i = some d → vals.getD i none = some v → vs i = v) ∧ a = { tmps := laid l vs a0.tmps, defers := a0.defers } := by
  have hx : ∀ i, ∃ v, i < l.length → ∀ d, slotOf l i = some d → a.tmps[d]? = some v := fun i => by
    by_cases hi : i < l.length
    · cases hsl : slotOf l i with
      | none => exact ⟨undef, fun _ d hd => by cases hd⟩
      | some d =>
        have hlt := slots_lt hs hi hsl
        exact ⟨a.tmps[d]'(by rw [h.size, hN]; exact hlt), fun _ d' hd' => by cases hd'; simp [h.size, hN, hlt]⟩
    · exact ⟨undef, fun hi' => absurd hi' hi⟩
  obtain ⟨vs, hvs⟩ : ∃ vs : Nat → Value, ∀ i, i < l.length → ∀ d, slotOf l i = some d → a.tmps[d]? = some (vs i) := ⟨fun i => (hx i).choose, fun i => (hx i).choose_spec⟩
  refine ⟨vs, fun i d v hi hd hv => ?_, ?_⟩
  · have h1 := hvs i hi d hd
    have h2 := h.det i d v (hp i hi) hd hv
    rw [h1] at h2
    exact Option.some.inj h2
  have e1 : a.tmps = laid l vs a0.tmps := by
    refine Array.ext_getElem? fun t => ?_
    by_cases hex : ∃ i, i < l.length ∧ slotOf l i = some t
    · obtain ⟨i, hi, hit⟩ := hex
      rw [hvs i hi t hit]
      exact (laid_foldl_at l vs N hs t i hi hit (List.range l.length) a0.tmps hN (fun j hj => List.mem_range.1 hj) List.nodup_range (List.mem_range.2 hi)).symm
    · have hno : ∀ i, i < l.length → slotOf l i ≠ some t := fun i hi hit => hex ⟨i, hi, hit⟩
      rw [h.same t (fun i hi _ => hno i hi)]
      exact (laid_foldl_other l vs t (List.range l.length) a0.tmps (fun j hj => hno j (List.mem_range.1 hj))).symm
  have e2 := h.defers
  cases a
  dsimp only at e1 e2
  rw [e1, e2]
end
section
variable {P : Program} {Q : Exit → Act → World → Prop} {l : List Oper} {a0 a : Act} {vals : List (Option Value)} {Ψ : (Nat → Prop) → (Nat → Option Value) → World → Prop} {W : World} {p : Nat → Prop}
def SetsC (l : List Oper) (vals : List (Option Value)) (Ψ : (Nat → Prop) → (Nat → Option Value) → World → Prop) (p : Nat → Prop) (i : Nat) (a : Act) (K : Act → World → Prop) : Prop :=
  ∀ v W', (∀ u, vals.getD i none = some u → v = u) → Ψ (fun k => p k ∨ k = i) (fun t => (a.put (slotOf l i) v).tmps[t]?) W' → K (a.put (slotOf l i) v) W'
/-- **A region that draws its order and changes memory.** -/
theorem region_chg {id : Nat} {w : World} (hm : P.follows .mixedOrders = true) (hu : waitsFor l.toArray = true) (vals : List (Option Value)) (Ψ : (Nat → Prop) → (Nat → Option Value) → World → Prop) (N : Nat) (hN : a0.tmps.size = N) (hs : slotsOk l N = true) (ds : List (Nat × Tmp)) (hds : slots l = ds)
    (h0 : Ψ (fun _ => False) (fun t => a0.tmps[t]?) w.drew)
    (hstep : ∀ (p : Nat → Prop) (a : Act) (W : World) (i : Nat), i < l.length → ¬ p i → (∀ o, l.toArray[i]? = some o → ∀ e, e ∈ o.after → Region.binds .any e = true → p e.on) → RegC l a0 vals Ψ p a W →
      ∀ K : Act → World → Prop, SetsC l vals Ψ p i a K → wpOp P l.toArray Q i K a W)
    (hend : ∀ (vs : Nat → Value) (p : Nat → Prop) (W : World), (∀ i, i < l.length → p i) → Ψ p (fun t => (lay ds vs a0.tmps)[t]?) W → (∀ i d v, i < l.length → slotOf l i = some d → vals.getD i none = some v → vs i = v) → Q .normal { tmps := lay ds vs a0.tmps, defers := a0.defers } W) : (Code.region id l.toArray true).wp P Q a0 w := by
  refine region_inv2 hm hu (RegC l a0 vals Ψ) ?_ ?_ ?_
  · exact ⟨rfl, rfl, fun _ _ => rfl, fun i d v h => h.elim, h0, fun _ h => h.elim, fun _ h => h.elim⟩
  · intro p a W i hi hn hd h
    exact hstep p a W i hi hn hd h _ (fun v W' hv hΨ => h.step N hN hs hi hd hv hΨ)
  · intro p a W hp h
    obtain ⟨vs, h1, rfl⟩ := h.frame N hN hs hp
    have h2 := h.world
    rw [laid_lay hds] at h2 ⊢
    exact hend vs p W hp h2 h1
theorem op_doC {i : Nat} {o : Oper} {K : Act → World → Prop} (hi : l.toArray[i]? = some o) (hw : Region.wanted o (yielded l.toArray a.tmps) = true) (hK : SetsC l vals Ψ p i a K)
    (h : ∀ K' : Act → World → Prop, (∀ v W', (∀ u, vals.getD i none = some u → v = u) → Ψ (fun k => p k ∨ k = i) (fun t => (a.put o.dst v).tmps[t]?) W' → K' (a.put o.dst v) W') → o.wp P a W K' Q) : wpOp P l.toArray Q i K a W := by
  unfold wpOp
  rw [hi]
  simp only [hw, if_true]
  have hs : slotOf l i = o.dst := by
    unfold slotOf
    rw [show l[i]? = some o by simpa using hi]
    rfl
  refine .inl (h K fun v W' hv hΨ => ?_)
  rw [← hs] at hΨ ⊢
  exact hK v W' hv hΨ
end
end Go.Proofs.YtbpgpjibljgiiaaGreatDoor
namespace Go.Proofs.YtbpgpjibljgiiaaGreatDoor
open Go.RowKit
set_option linter.unusedVariables false
set_option linter.unusedSimpArgs false
set_option linter.unnecessarySimpa false

/-- ms: for each operation some that it waits for, at one or more removes. -/
def ancOk (l : List Oper) (ms : List (List Nat)) : Bool :=
  (List.range l.length).all fun i => (ms.getD i []).all fun j => match l[i]? with
    | some o => o.after.any fun e => Region.binds .any e && (e.on == j || (ms.getD e.on []).contains j)
    | none => false
/-- The tail. -/
def forced (l : List Oper) (ms : List (List Nat)) (n : Nat) : Bool := (List.range l.length).all fun i => decide (i < n) || (List.range i).all fun j => (ms.getD i []).contains j
theorem anc_done {l : List Oper} {ms : List (List Nat)} (hu : waitsFor l.toArray = true) (h : ancOk l ms = true) {p : Nat → Prop} (hc : ∀ i, p i → ∀ o, l.toArray[i]? = some o → ∀ e, e ∈ o.after → Region.binds .any e = true → p e.on) :
    ∀ i, i < l.length → (∀ o, l.toArray[i]? = some o → ∀ e, e ∈ o.after → Region.binds .any e = true → p e.on) → ∀ j, j ∈ ms.getD i [] → p j := by
  intro i
  induction i using Nat.strongRecOn with
  | _ i ih =>
    intro hi hd j hj
    have h1 := List.all_eq_true.1 (List.all_eq_true.1 h i (List.mem_range.2 hi)) j hj
    have ho : l[i]? = some l[i] := List.getElem?_eq_getElem hi
    rw [ho] at h1
    obtain ⟨e, he, h2⟩ := Array.any_eq_true'.1 h1
    rw [Bool.and_eq_true, Bool.or_eq_true] at h2
    have hp := hd l[i] (by simpa using ho) e he h2.1
    rcases h2.2 with h3 | h3
    · have : e.on = j := by simpa using h3
      rw [← this]; exact hp
    · have hw := List.all_eq_true.1 hu i (by simpa using hi)
      rw [show l.toArray[i]? = some l[i] by simpa using ho] at hw
      have h4 := Array.all_eq_true'.1 hw e he
      rw [h2.1] at h4
      have h5 : e.on < i := by simpa using h4
      exact ih e.on h5 (by omega) (hc e.on hp) j (by simpa using h3)
section
variable {P : Program} {Q : Exit → Act → World → Prop} {l : List Oper} {a0 : Act}
/-- **Any order first, then a forced tail.** -/
theorem region_tail {id : Nat} {w : World} (hm : P.follows .mixedOrders = true) (hu : waitsFor l.toArray = true) (ms : List (List Nat)) (hms : ancOk l ms = true) (n : Nat) (hn : n ≤ l.length) (hf : forced l ms n = true) (Φ : List Stab) (N : Nat) (hN : a0.tmps.size = N) (hs : slotsOk l N = true)
    (hstep : ∀ (p : Nat → Prop) (a : Act) (W : World) (i : Nat), i < n → ¬ p i → (∀ o, l.toArray[i]? = some o → ∀ e, e ∈ o.after → Region.binds .any e = true → p e.on) → Reg l a0 Φ w p a W →
      ∀ K : Act → World → Prop, Sets l Φ i a W K → wpOp P l.toArray Q i K a W)
    (hend : ∀ (p : Nat → Prop) (a : Act) (W : World), (∀ i, p i ↔ i < n) → Reg l a0 Φ w p a W → wpList P l.toArray Q (l.drop n) a W) : (Code.region id l.toArray true).wp P Q a0 w := by
  have hall : ∀ {p : Nat → Prop} {i : Nat}, n ≤ i → i < l.length → (∀ i, p i → ∀ o, l.toArray[i]? = some o → ∀ e, e ∈ o.after → Region.binds .any e = true → p e.on) → (∀ o, l.toArray[i]? = some o → ∀ e, e ∈ o.after → Region.binds .any e = true → p e.on) → ∀ j, j < i → p j := fun {p i} h1 h2 h3 h4 j hj => by
    have h5 := List.all_eq_true.1 hf i (List.mem_range.2 h2)
    have h6 : decide (i < n) = false := by simp; exact h1
    rw [h6, Bool.false_or] at h5
    exact anc_done hu hms h3 i h2 h4 j (by simpa using List.all_eq_true.1 h5 j (List.mem_range.2 hj))
  have hgo : ∀ {i : Nat} {a : Act} {W : World} (p : Nat → Prop), n ≤ i → i < l.length → (∀ j, p j ↔ j < i) → wpList P l.toArray Q (l.drop i) a W →
      wpOp P l.toArray Q i (fun a' W' => (Reg l a0 Φ w (fun k => p k ∨ k = i) a' W' ∧ ∀ j, (p j ∨ j = i) → j < n) ∨ (∃ m, n ≤ m ∧ (∀ j, (p j ∨ j = i) ↔ j < m) ∧ wpList P l.toArray Q (l.drop m) a' W')) a W := fun {i a W} p h1 h2 h3 h4 => by
    rw [List.drop_eq_getElem_cons h2] at h4
    have hp : ∀ j, (p j ∨ j = i) ↔ j < i + 1 := fun j => by rw [h3 j]; omega
    unfold wpOp
    rw [show l.toArray[i]? = some l[i] by simp [h2]]
    unfold wpList at h4
    dsimp only
    split
    · rename_i hw
      rw [if_pos hw] at h4
      rcases h4 with h4 | h4
      · exact .inl (Oper.wp_mono (fun a' W' h => .inr ⟨i + 1, by omega, hp, h⟩) h4)
      · exact .inr h4
    · rename_i hw
      rw [if_neg hw] at h4
      exact .inr ⟨i + 1, by omega, hp, h4⟩
  refine region_inv2 hm hu (fun p a W => (Reg l a0 Φ w p a W ∧ ∀ j, p j → j < n) ∨ (∃ m, n ≤ m ∧ (∀ j, p j ↔ j < m) ∧ wpList P l.toArray Q (l.drop m) a W)) ?_ ?_ ?_
  · exact .inl ⟨⟨rfl, rfl, fun _ _ => rfl, fun i d h => h.elim, (Fr.refl _ _).drew, fun _ h => h.elim, fun _ h => h.elim⟩, fun j h => h.elim⟩
  · intro p a W i hi hnp hd h
    rcases h with ⟨h, hpn⟩ | ⟨m, hnm, hpm, hw⟩
    · rcases Nat.lt_or_ge i n with hin | hin
      · exact hstep p a W i hin hnp hd h _ (fun v W' f hv => .inl ⟨h.step N hN hs hi hd f hv, fun j hj => by
          rcases hj with hj | hj
          · exact hpn j hj
          · omega⟩)
      · have hlt := hall hin hi h.closed hd
        have hin' : i = n := by
          rcases Nat.lt_or_ge n i with h5 | h5
          · have := hpn n (hlt n h5); omega
          · omega
        subst hin'
        exact hgo p (Nat.le_refl _) hi (fun j => ⟨fun hj => hpn j hj, fun hj => hlt j hj⟩) (hend p a W (fun j => ⟨fun hj => hpn j hj, fun hj => hlt j hj⟩) h)
    · have him : i = m := by
        have h1 : ¬ i < m := fun h => hnp ((hpm i).2 h)
        rcases Nat.lt_or_ge m i with h5 | h5
        · have h7 : p m := by
            have h5' := List.all_eq_true.1 hf i (List.mem_range.2 hi)
            have h6 : decide (i < n) = false := by simp; omega
            rw [h6, Bool.false_or] at h5'
            have h8 := List.all_eq_true.1 h5' m (List.mem_range.2 h5)
            refine anc_done hu hms (p := p) (fun k hk o ho e he hb => ?_) i hi hd m (by simpa using h8)
            rw [hpm] at hk ⊢
            have hkl : k < l.length := (Array.getElem?_eq_some_iff.1 ho).1
            have hw := List.all_eq_true.1 hu k (by simpa using hkl)
            rw [ho] at hw
            have h4 := Array.all_eq_true'.1 hw e he
            rw [hb] at h4
            have h5 : e.on < k := by simpa using h4
            omega
          have := (hpm m).1 h7
          omega
        · omega
      subst him
      exact hgo p hnm hi hpm hw
  · intro p a W hp h
    rcases h with ⟨h, hpn⟩ | ⟨m, hnm, hpm, hw⟩
    · have hnl : n = l.length := by
        rcases Nat.lt_or_ge n l.length with h5 | h5
        · have := hpn n (hp n h5); omega
        · omega
      have := hend p a W (fun j => ⟨fun hj => hpn j hj, fun hj => hp j (by omega)⟩) h
      rw [hnl, List.drop_length] at this
      exact this
    · have hml : l.length ≤ m := by
        rcases Nat.lt_or_ge m l.length with h5 | h5
        · have := (hpm m).1 (hp m h5); omega
        · exact h5
      rw [List.drop_of_length_le hml] at hw
      exact hw
end
section
variable {l : List Oper} {a0 a : Act} {Φ : List Stab} {w0 W : World} {p : Nat → Prop} {n : Nat}
/-- The frame behind the first operations. -/
theorem Reg.front (h : Reg l a0 Φ w0 p a W) (N : Nat) (hN : a0.tmps.size = N) (hs : slotsOk l N = true) (hn : n ≤ l.length) (hp : ∀ i, p i ↔ i < n) (ds : List (Nat × Tmp)) (hds : slots (l.take n) = ds) :
    ∃ vs : Nat → Value, (∀ i d, i < n → slotOf l i = some d → (Φ.getD i Stab.any).says (vs i) W) ∧ a = { tmps := lay ds vs a0.tmps, defers := a0.defers } := by
  have hsl : ∀ i, i < n → slotOf (l.take n) i = slotOf l i := fun i hi => by
    unfold slotOf
    rw [List.getElem?_take, if_pos hi]
  have hs' : slotsOk (l.take n) N = true := by
    have hl : (l.take n).length = n := by rw [List.length_take]; omega
    unfold slotsOk
    rw [Bool.and_eq_true]
    constructor
    · refine List.all_eq_true.2 fun i hi => List.all_eq_true.2 fun j hj => ?_
      have hi' := List.mem_range.1 hi
      have hj' := List.mem_range.1 hj
      rw [hl] at hi' hj'
      rw [hsl i hi', hsl j hj']
      have h3 := (Bool.and_eq_true _ _ ▸ hs : _ ∧ _).1
      exact List.all_eq_true.1 (List.all_eq_true.1 h3 i (List.mem_range.2 (by omega))) j (List.mem_range.2 (by omega))
    · refine List.all_eq_true.2 fun i hi => ?_
      have hi' := List.mem_range.1 hi
      rw [hl] at hi'
      rw [hsl i hi']
      have h3 := (Bool.and_eq_true _ _ ▸ hs : _ ∧ _).2
      exact List.all_eq_true.1 h3 i (List.mem_range.2 (by omega))
  have hl : (l.take n).length = n := by rw [List.length_take]; omega
  have h2 : Reg (l.take n) a0 Φ w0 p a W := by
    refine ⟨h.size, h.defers, fun t ht => h.same t fun i hi hpi hst => ht i (by rw [hl]; exact (hp i).1 hpi) hpi (by rw [hsl i ((hp i).1 hpi)]; exact hst), fun i d hpi hst => h.facts i d hpi (by rw [← hsl i ((hp i).1 hpi)]; exact hst), h.grown, fun i hpi => by rw [hl]; exact (hp i).1 hpi, fun i hpi o ho => h.closed i hpi o ?_⟩
    have hi := (hp i).1 hpi
    have : (l.take n)[i]? = some o := by simpa using ho
    rw [List.getElem?_take, if_pos hi] at this
    simpa using this
  obtain ⟨vs, h3, h4⟩ := h2.frame N hN hs' (fun i hi => (hp i).2 (by rw [hl] at hi; exact hi))
  refine ⟨vs, fun i d hi hd => h3 i d (by rw [hl]; exact hi) (by rw [hsl i hi]; exact hd), ?_⟩
  rw [h4, laid_lay hds]
end
end Go.Proofs.YtbpgpjibljgiiaaGreatDoor
