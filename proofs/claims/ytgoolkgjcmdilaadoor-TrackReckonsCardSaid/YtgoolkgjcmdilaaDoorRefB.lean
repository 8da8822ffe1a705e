/-
  The document's table: Get, Next, Copy.
-/
import Derived.Test.YtgoolkgjcmdilaaDoorRefA
namespace Go.Proofs.YtgoolkgjcmdilaaDoor
open Go.RowKit
set_option linter.unusedVariables false
set_option linter.unusedSimpArgs false
attribute [local go_sem] Oper.semAt_some

set_option maxRecDepth 100000 in
theorem rget_yes (w : World) (b : Nat) (v : Value) (R : IPs) (room id x : Int) (h : RefT w b v R room) (hi : U32 id) (hx : R[rank R id]? = some (id, x)) :
    Calls Tryd.prog 69 #[.pointer (some ⟨b, 0, none⟩), .int .u32 id] w fun e w' => e = .returned (.tuple #[.int .i64 x, .bool true]) ∧ Fr [] w w' := by
  have hh : hasId R id = true := (has_at h.up id).2 ⟨x, hx⟩
  have hA := at_any w b v R room id h hi
  rw [hh] at hA
  have hrl := (List.getElem?_eq_some_iff.1 hx).1
  have HH := Lib.hid h
  obtain ⟨r, hr⟩ : ∃ r, r = rank R id := ⟨_, rfl⟩
  obtain ⟨n, hn⟩ : ∃ n, n = R.length := ⟨_, rfl⟩
  rw [← hr] at hA hx hrl
  have HA := Lib.hid hA
  have HX := Lib.hid (And.intro hx hn)
  rw [← hn] at hrl
  clear h hh hA hr hx hn
  go_enter Tryd.func69, Tryd.ntmps69
  go_wp2_with fail
  (with_reducible refine (HA.out).mono ?_)
  rintro e w1 ⟨rfl, rfl⟩
  have h1 : RefT w.drew b v R room := HH.out.grow (Fr.refl [] w).drew
  obtain ⟨p, cap, rfl, _, hr⟩ := h1.rd
  have d1 := h1.hd.at 1 (v := .slice p R.length cap) rfl
  rw [← HX.out.2] at d1
  obtain ⟨g, o, rfl, c0, c1⟩ := hr r _ HX.out.1
  dsimp only at c0 c1
  have g0 : (0 : Int) ≤ (r : Int) := by omega
  have g1 : (r : Int) < (n : Int) := by omega
  clear h1 hr hrl
  go_wp2_with fail
  refine bodyPost_ret (v := .tuple #[.int .i64 x, .bool true]) (by simp [results, Tryd.results69, go_sem]) rfl ⟨rfl, (Fr.refl [] w).drew⟩
set_option maxRecDepth 100000 in
theorem rget_no (w : World) (b : Nat) (v : Value) (R : IPs) (room id : Int) (h : RefT w b v R room) (hi : U32 id) (hh : hasId R id = false) :
    Calls Tryd.prog 69 #[.pointer (some ⟨b, 0, none⟩), .int .u32 id] w fun e w' => e = .returned (.tuple #[.int .i64 0, .bool false]) ∧ Fr [] w w' := by
  have hA := at_any w b v R room id h hi
  rw [hh] at hA
  obtain ⟨r, hr⟩ : ∃ r, r = rank R id := ⟨_, rfl⟩
  rw [← hr] at hA
  have HA := Lib.hid hA
  clear h hh hA hr
  go_enter Tryd.func69, Tryd.ntmps69
  go_wp2_with fail
  (with_reducible refine (HA.out).mono ?_)
  rintro e w1 ⟨rfl, rfl⟩
  go_wp2_with fail
  refine bodyPost_ret (v := .tuple #[.int .i64 0, .bool false]) (by simp [results, Tryd.results69, go_sem]) rfl ⟨rfl, (Fr.refl [] w).drew⟩

/-- Where the document's Next stops. -/
def nxtR (R : IPs) (id : Int) (all : Bool) : Nat := if all then 0 else rank R id + (if hasId R id then 1 else 0)
theorem nxtR_le (R : IPs) (hu : Up R) (id : Int) (all : Bool) : nxtR R id all ≤ R.length := by
  unfold nxtR
  split
  · omega
  · split
    · obtain ⟨x, hx⟩ := (has_at hu id).1 ‹_›
      have := (List.getElem?_eq_some_iff.1 hx).1
      omega
    · have := rank_le R id; omega
theorem nxtR_lt {R : IPs} (hu : Up R) (id : Int) (all : Bool) {i : Nat} {q : Int × Int} (h : R[i]? = some q) : (all = true ∨ id < q.1) ↔ nxtR R id all ≤ i := by
  unfold nxtR
  cases all with
  | true => simp
  | false =>
    have h1 := rank_lt hu id h
    simp only [Bool.false_eq_true, false_or, if_false]
    cases hh : hasId R id with
    | true =>
      obtain ⟨x, hx⟩ := (has_at hu id).1 hh
      obtain ⟨h2, e2⟩ := List.getElem?_eq_some_iff.1 hx
      obtain ⟨h3, e3⟩ := List.getElem?_eq_some_iff.1 h
      rw [if_pos rfl]
      constructor
      · intro hl
        rcases Nat.lt_or_ge (rank R id) i with c | c
        · exact c
        · rcases Nat.lt_or_ge i (rank R id) with c2 | c2
          · have := h1.2 c2; omega
          · obtain rfl : i = rank R id := by omega
            rw [hx] at h; cases h; dsimp only at hl; omega
      · intro hl
        have := List.pairwise_iff_getElem.1 hu _ _ h2 h3 (by omega)
        rw [e2, e3] at this
        exact this
    | false =>
      rw [if_neg (by decide)]
      have h2 : q.1 ≠ id := fun e => by
        have : hasId R id = true := by
          unfold hasId
          rw [List.any_eq_true]
          exact ⟨q, List.mem_of_getElem? h, by simp [e]⟩
        rw [hh] at this; cases this
      omega
set_option maxRecDepth 100000 in
set_option maxHeartbeats 1000000 in
theorem rnext_any (w : World) (b : Nat) (v : Value) (R : IPs) (room id : Int) (all : Bool) (h : RefT w b v R room) :
    Calls Tryd.prog 71 #[.pointer (some ⟨b, 0, none⟩), .int .u32 id, .bool all] w fun e w' => e = .returned (.tuple (match R[nxtR R id all]? with | some q => #[.int .u32 q.1, .int .i64 q.2, .bool true] | none => #[.int .u32 0, .int .i64 0, .bool false])) ∧ Fr [] w w' := by
  obtain ⟨p, cap, rfl, hc, h0⟩ := h.rd
  have c1 := h.hd.at 1 (v := .slice p R.length cap) rfl
  obtain ⟨n, hn⟩ : ∃ n, n = R.length := ⟨_, rfl⟩
  obtain ⟨r, hr'⟩ : ∃ r, r = nxtR R id all := ⟨_, rfl⟩
  have hrn : r ≤ n := by rw [hn, hr']; exact nxtR_le _ h.up _ _
  have hn6 : n ≤ 65536 := by rw [hn]; exact h.lim
  have HU := Lib.hid h.up
  have H0 := Lib.hid h0
  rw [← hn] at c1
  rw [← hr']
  obtain ⟨ans, ha⟩ : ∃ ans, ans = (match R[r]? with | some q => #[Value.int .u32 q.1, .int .i64 q.2, .bool true] | none => #[Value.int .u32 0, .int .i64 0, .bool false]) := ⟨_, rfl⟩
  rw [← ha]
  have HN := Lib.hid (And.intro hn (And.intro hr' ha))
  clear h h0 hn hr' hc ha
  go_enter Tryd.func71, Tryd.ntmps71
  go_wp2_with fail
  go_loopw [9] (fun iw wr => ∃ i : Nat, iw = .int .i64 i ∧ i ≤ r ∧ w = wr) (fun iw _ => n - (intOf iw).toNat)
  case atStart => exact ⟨0, rfl, Nat.zero_le _, rfl⟩
  case round =>
    obtain ⟨i, rfl, hir, rfl⟩ := hrel
    by_cases hin : i < n
    · have hlt : i < R.length := by rw [← HN.out.1]; exact hin
      obtain ⟨⟨y, z⟩, hy⟩ : ∃ q, q = R[i] := ⟨_, rfl⟩
      have hyi : R[i]? = some (y, z) := by rw [hy]; exact List.getElem?_eq_getElem hlt
      obtain ⟨g, o, rfl, c2, c3⟩ := H0.out i _ hyi
      dsimp only at c2 c3
      have hrk := nxtR_lt HU.out id all hyi
      rw [← HN.out.2.1] at hrk
      dsimp only at hrk
      have g0 : (0 : Int) ≤ (i : Int) := by omega
      have g1 : (i : Int) < (n : Int) := by omega
      have HY := Lib.hid hyi
      clear hy hyi hlt
      by_cases hri : r ≤ i
      · obtain rfl : i = r := by omega
        have hyes := hrk.2 hri
        have HE : ans = #[Value.int .u32 y, .int .i64 z, .bool true] := by rw [HN.out.2.2, HY.out]
        subst HE
        clear hrk hri hir
        cases all with
        | true =>
          clear hyes
          go_wp2_with fail
          go_region
          simp only [Exit.then]
          go_wp2_with fail
          refine bodyPost_ret (v := .tuple #[.int .u32 y, .int .i64 z, .bool true]) (by simp [results, Tryd.results71, go_sem]) rfl ⟨rfl, (Fr.refl [] w).drew⟩
        | false =>
          have hy1 : id < y := by simpa using hyes
          clear hyes
          go_wp2_with fail
          go_region
          simp only [Exit.then]
          go_wp2_with fail
          refine bodyPost_ret (v := .tuple #[.int .u32 y, .int .i64 z, .bool true]) (by simp [results, Tryd.results71, go_sem]) rfl ⟨rfl, (Fr.refl [] w).drew⟩
      · have hno : ¬ (all = true ∨ id < y) := fun q => hri (hrk.1 q)
        obtain rfl : all = false := by
          cases all with
          | true => exact absurd (.inl rfl) hno
          | false => rfl
        have hy1 : ¬ id < y := fun q => hno (.inr q)
        clear hno hrk
        go_wp2_with fail
        refine ⟨⟨i + 1, by go_num, by omega, by first | rfl | trivial⟩, by simp [intOf]; omega⟩
    · obtain rfl : i = n := by omega
      obtain rfl : i = r := by omega
      have HE : ans = #[Value.int .u32 0, .int .i64 0, .bool false] := by rw [HN.out.2.2, List.getElem?_eq_none (by rw [← HN.out.1]; exact Nat.le_refl _)]
      subst HE
      go_wp2_with fail
      refine bodyPost_ret (v := .tuple #[.int .u32 0, .int .i64 0, .bool false]) (by simp [results, Tryd.results71, go_sem]) rfl ⟨rfl, (Fr.refl [] w)⟩

/-! ### what may be appended, nil or not -/
def Src (w : World) (v : Value) (m size : Nat) (news : List Value) : Prop :=
  (v = .slice none 0 0 ∧ m = 0 ∧ news = []) ∨ ∃ ad c, v = .slice (some ad) m c ∧ news.length = m * size ∧ ∀ j u, news[j]? = some u → w.cell? (ad.add j) = some u
theorem Src.fr0 {w w' : World} {v : Value} {m size : Nat} {news : List Value} (h : Src w v m size news) (f : Fr [] w w') : Src w' v m size news := by
  rcases h with h | ⟨ad, c, h1, h2, h3⟩
  · exact .inl h
  · exact .inr ⟨ad, c, h1, h2, fun j u hj => (f.cell (World.block_lt_of_cell? w _ (h3 j u hj)) (by simp)).trans (h3 j u hj)⟩
theorem Src.of_own {w : World} {e size n : Nat} {v : Value} {xs : List Value} (h : w.ownsRow 0 e size v n xs) : Src w v n size xs := by
  rcases h.2 with ⟨rfl, rfl⟩ | ⟨g, cap, cur, rfl, _⟩
  · exact .inl ⟨rfl, rfl, by have := h.1; simpa using this⟩
  · exact .inr ⟨_, cap, rfl, h.1, h.cells (g := g) rfl⟩
theorem wpList_src {P : Program} (w : World) {ops : Array Oper} {rest : List Oper} {o : Oper} {a : Act} {Q : Exit → Act → World → Prop}
    (hg : o.guard = none) (s x : Operand) (t : TypeId) (hop : o.op = Op.call { callee := Callee.builtin Builtin.append, args := #[s, x], argTypes := #[t, t] })
    (e : TypeId) (z : Value) (size bytes : Nat) (h1 : P.underlying t = some (.slice e)) (h2 : (P.info? e).map (fun i => (i.zero, i.size, i.bytes)) = some (some z, size, bytes)) (h6 : z.cells.size = size) (h7 : 0 < size)
    (v : Value) (k : Nat) (xs : List Value) (hs : a.eval s = v) (hown : w.ownsRow 0 e size v k xs) (xv : Value) (m : Nat) (news : List Value) (hx : a.eval x = xv) (hsrc : Src w xv m size news)
    (h1c : ∀ u ∈ news, u.oneCell' = true) (b1 : k + m ≤ maxLen) (b2 : (k + m) * bytes ≤ 140737488355328)
    (hK : ∀ v' w', Appended w e size v (k + m) (xs ++ news) v' w' → wpList P ops Q rest (a.put o.dst v') w') :
    wpList P ops Q (o :: rest) a w := by
  rcases hsrc with ⟨rfl, rfl, rfl⟩ | ⟨ad, c, rfl, hn, hc⟩
  · obtain ⟨i, hi, hz, hsz, hby⟩ := info_parts h2
    refine wpList_plain hg fun K hK' => ?_
    have hrun := run_append_owned_none (P := P) (w := w) 0 t o.type e i size h1 hi v k xs hown
    unfold Oper.wp execOp
    simp only [hop, resolve, invoke, builtin, Sem.run_bind, Sem.run_pure, Result.andThen_ok, List.map_toArray, List.map_cons, List.map_nil, hs, hx, hrun]
    exact hK' _ _ (hK v w ⟨by simpa using hown, World.grownBy.refl _ _, .inl rfl⟩)
  · exact wpList_app w hg s x t hop e z size bytes h1 h2 h6 h7 v k xs hs hown ad m c news hx hn hc h1c b1 b2 hK
theorem infoR : (Tryd.prog.info? 154).map (fun i => (i.zero, i.size, i.bytes)) = some (some (.agg #[.int .u32 0, .int .i64 0]), 2, 16) := by kernel_rfl
set_option maxRecDepth 100000 in
theorem rcopy_any (w : World) (b : Nat) (v : Value) (R : IPs) (room : Int) (h : RefT w b v R room) :
    Calls Tryd.prog 20 #[.pointer (some ⟨b, 0, none⟩)] w fun e w' => (∃ v', e = .returned v' ∧ w'.ownsRow 0 154 2 v' R.length (flat payN R) ∧ ∀ g, v'.ownBlock = some g → w.heap.size ≤ g) ∧ Fr [] w w' := by
  have hs := Src.of_own h.own
  have c1 := h.hd.at 1 (v := v) rfl
  have hl := h.lim
  have ho : ∀ u ∈ flat payN R, u.oneCell' = true := flat_one wideN R
  obtain ⟨n, hn⟩ : ∃ n, n = R.length := ⟨_, rfl⟩
  obtain ⟨xs, hx⟩ : ∃ xs, xs = flat payN R := ⟨_, rfl⟩
  rw [← hn, ← hx] at hs
  rw [← hx] at ho
  rw [← hn] at hl
  simp only [← hn, ← hx]
  have HS := Lib.hid (And.intro hs ho)
  clear h hs ho hn hx
  go_enter Tryd.func20, Tryd.ntmps20
  go_wp2_with (at_builtin; go_must (refine wpList_src _ rfl _ _ 50 rfl 154 (.agg #[.int .u32 0, .int .i64 0]) 2 16 Tryd.underlying50 infoR rfl (by decide) (.slice none 0 0) 0 [] rfl (World.ownsRow_nil _ _ _ _) _ n xs rfl HS.out.1 HS.out.2 (by unfold maxLen; omega) (by omega) ?_); intro v1 w3 happ; have HAP := Lib.hid happ; clear happ)
  all_goals
    go_ret
    refine ⟨⟨_, rfl, by simpa using HAP.out.own, fun g hg => ?_⟩, HAP.out.fr.mono (by simp [Value.ownBlock])⟩
    have hg' : v1.ownBlock = some g := hg
    clear hg
    rcases HAP.out.place with q | q
    · rw [q] at hg'; simp [Value.ownBlock] at hg'
    · rw [q] at hg'; cases hg'; exact Nat.le_refl _
end Go.Proofs.YtgoolkgjcmdilaaDoor
