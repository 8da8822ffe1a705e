/-
  The document's sender: Offer, by contracts.
-/
import Derived.Test.YtehdhdocalbfpaaPlayA
import Derived.Test.YtehdhdocalbfpaaSendG
import Derived.Deep.RegionLaw
namespace Go.Proofs.Ytehdhdocalbfpaa
open Go.RowKit ring
set_option linter.unusedVariables false
attribute [local go_sem ↓] Go.wp_at_zero Go.wp_at_succ newVar56
attribute [local go_sem] ev_layEv_same can_new run_storeEv0 run_newEv run_newEv'

theorem pnew_cells (w : World) (e : Ev) : ∀ j u, e.cells[j]? = some u → (w.alloc (.cells e.cells.toArray 56)).cell? ((⟨w.heap.size, 0, none⟩ : Addr).add j) = some u := by
  intro j u hj
  rw [Addr.add_lit]
  have := (Blk.new w e.cells.toArray 56).at j (v := u) (by simpa using hj)
  simpa using this
theorem fold_ev (e : Ev) : List.foldl (fun (cs : Array Value) (x : Value × Nat) => cs.setIfInBounds x.snd x.fst) #[.int .u8 0, .int .u32 0, .int .u32 0, .int .u32 0, .int .i32 0, .int .i32 0, .int .u32 0, .float .f64 0] e.cells.zipIdx = e.cells.toArray := by kernel_rfl
theorem step_app {P : Program} {w : World} {ops : Array Oper} {o : Oper} {a : Act} {K : Act → World → Prop} {Q : Exit → Act → World → Prop} {E : Prop} (hgd : o.guard = none) (s x : Operand) (t : TypeId)
    (hop : o.op = .call { callee := .builtin .append, args := #[s, x], argTypes := #[t, t] })
    (e : TypeId) (z : Value) (size bytes : Nat) (h1 : P.underlying t = some (.slice e)) (h2 : (P.info? e).map (fun i => (i.zero, i.size, i.bytes)) = some (some z, size, bytes)) (h6 : z.cells.size = size) (h7 : 0 < size)
    (v : Value) (k : Nat) (xs : List Value) (hs : a.eval s = v) (hown : w.ownsRow 0 e size v k xs) (ad : Addr) (m c : Nat) (news : List Value) (hx : a.eval x = .slice (some ad) m c) (hn : news.length = m * size)
    (hc : ∀ j u, news[j]? = some u → w.cell? (ad.add j) = some u) (h1c : ∀ u ∈ news, u.oneCell' = true) (b1 : k + m ≤ maxLen) (b2 : (k + m) * bytes ≤ 140737488355328)
    (hK : ∀ v' w', Appended w e size v (k + m) (xs ++ news) v' w' → K (a.put o.dst v') w') :
    if Region.wanted o (yielded ops a.tmps) = true then Oper.wp P o a w K Q else E := by
  have hw : Region.wanted o (yielded ops a.tmps) = true := by simp [Region.wanted, hgd]
  rw [if_pos hw]
  obtain ⟨i, hi, hz, hsz, hby⟩ := info_parts h2
  obtain ⟨v', w', hrun, r1, r2, -⟩ := run_append_own (P := P) w 0 t o.type e i z size bytes h1 hi hz hsz hby h6 h7 v k xs hown ad m c news hn hc h1c b1 b2 (Nat.zero_le _)
  have r4 := run_app_where w t o.type e i z size bytes h1 hi hz hsz hby v k xs hown ad m c news hn hc h1c b1 b2 v' w' hrun
  unfold Oper.wp execOp
  simp only [hop, resolve, invoke, builtin, Sem.run_bind, Sem.run_pure, Result.andThen_ok, List.map_toArray, List.map_cons, List.map_nil, hs, hx, hrun]
  exact hK v' w' ⟨r1, r2, r4⟩
theorem pev_one (e : Ev) : ∀ u ∈ e.cells, u.oneCell' = true := by
  intro u hu
  simp [Ev.cells] at hu
  rcases hu with rfl | rfl | rfl | rfl | rfl | rfl | rfl | rfl <;> rfl
theorem evs_one (L : List Ev) : ∀ u ∈ evs L, u.oneCell' = true := by
  intro u hu
  simp only [evs, List.mem_flatMap] at hu
  obtain ⟨e, _, h⟩ := hu
  exact pev_one e u h
section
variable (w : World) (T : List Nat) (rb win tmo most acked : Nat) (L : List Ev) (A : List Int)
set_option maxRecDepth 100000 in
theorem roffer_full (x : Ev) (h : Ref w T rb win tmo most acked L A) (hl : L.length = most) : Calls Try.prog 28 #[.pointer (some ⟨rb, 0, none⟩), x.val] w fun e w' => e = .returned (.tuple #[.int .u64 0, .int .i64 5]) ∧ RefTo w T w' rb win tmo most acked L A := by
  have f0 := (Fr.refl [] w).alloc (.cells x.cells.toArray 56)
  have HH := Lib.hid (And.intro h f0)
  obtain ⟨bv, av, hT, hb, h1, h2⟩ := (h.fr0 f0).ex
  obtain ⟨p, c, rfl⟩ := own_form h1
  have c2 := hb.at 2 (v := .int .i64 most) rfl
  have c4 := hb.at 4 (v := .slice p L.length c) rfl
  have hd : decide ((most : Int) ≤ (L.length : Int)) = true := by simp; omega
  have hd2 : most ≤ L.length := by omega
  clear h hT hb h1 h2 hl f0
  go_enter Try.func28, Try.ntmps28
  go_wp2_with fail
  generalize (w.alloc _) = w0 at *
  go_quiet (fail)
  go_wp2
  go_ret2
  exact ⟨rfl, RefTo.same HH.out.1 (HH.out.2.drewN _)⟩
set_option maxRecDepth 100000 in
theorem roffer_out (x : Ev) (h : Ref w T rb win tmo most acked L A) (hl : L.length < most) (hm : acked + L.length + 1 = 18446744073709551616) : Calls Try.prog 28 #[.pointer (some ⟨rb, 0, none⟩), x.val] w fun e w' => e = .returned (.tuple #[.int .u64 0, .int .i64 3]) ∧ RefTo w T w' rb win tmo most acked L A := by
  have f0 := (Fr.refl [] w).alloc (.cells x.cells.toArray 56)
  have HH := Lib.hid (And.intro h f0)
  have hlm := h.lm
  obtain ⟨bv, av, hT, hb, h1, h2⟩ := (h.fr0 f0).ex
  obtain ⟨p, c, rfl⟩ := own_form h1
  have c2 := hb.at 2 (v := .int .i64 most) rfl
  have c3 := hb.at 3 (v := .int .u64 acked) rfl
  have c4 := hb.at 4 (v := .slice p L.length c) rfl
  have hd : decide ((most : Int) ≤ (L.length : Int)) = false := by simp; omega
  have hd2 : ¬ most ≤ L.length := by omega
  have k1 : IntKind.u64.wrap (L.length : Int) = L.length := by rw [IntKind.wrap_u64]; omega
  have k2 : IntKind.u64.wrap ((acked : Int) + (L.length : Int)) = (acked : Int) + L.length := by rw [IntKind.wrap_u64]; omega
  have j2 : ((acked : Int) + (L.length : Int) == 18446744073709551615) = true := beq_true' (by omega)
  clear h hT hb h1 h2 hl f0
  go_enter Try.func28, Try.ntmps28
  go_wp2_with fail
  generalize (w.alloc _) = w0 at *
  go_quiet (fail)
  go_wp2_with fail
  go_quiet (fail)
  go_wp2
  go_ret2
  exact ⟨rfl, RefTo.same HH.out.1 (by first | exact HH.out.2.drewN _ | exact (HH.out.2.drewN _).drewN _)⟩
theorem roffer_end (x : Ev) (W : World) (p : Option Addr) (c : Nat) (v1 : Value) (w3 : World) (av : Value) (h0 : Ref w T rb win tmo most acked L A) (hT : T = [rb] ++ (Value.slice p L.length c).ownBlock.toList ++ av.ownBlock.toList)
    (hb : Blk w rb #[.int .i64 win, .int .i64 tmo, .int .i64 most, .int .u64 acked, .slice p L.length c, av] 81) (h1 : w.ownsRow 0 56 8 (.slice p L.length c) L.length (evs L)) (h2 : w.ownsRow 0 51 1 av A.length (u32s A)) (hl : L.length < most) (hm : acked + L.length + 1 < 18446744073709551616)
    (fW : Fr [] w W) (ha : Appended W 56 8 (.slice p L.length c) (L.length + 1) (evs L ++ x.cells) v1 w3) :
    (w3.cell? ⟨rb, 4, none⟩ = some (.slice p L.length c) ∧ w3.frozen? ⟨rb, 4, none⟩ = false) ∧ RefTo w T (w3.setCell ⟨rb, 4, none⟩ v1) rb win tmo most acked (L ++ [x]) A := by
  have hbW := fW.blk hb (by simp)
  have h1W := own_fr h1 fW (by simp)
  have h2W := own_fr h2 fW (by simp)
  have f := ha.fr
  have hb3 := f.blk hbW (own_notin h1W hbW (by decide))
  have h23 : w3.ownsRow 0 51 1 av A.length (u32s A) := own_fr h2W f (fun g hg hm => by
    rcases h2W.2 with ⟨h5, _⟩ | ⟨g5, cap, cur, h5, _, hgg, _⟩
    · rw [h5] at hg; simp [Value.ownBlock] at hg
    · have : g5 = g := by rw [h5] at hg; simpa [Value.ownBlock] using hg
      subst this
      have : Blk W g5 cur 51 := hgg
      exact own_notin h1W this (by decide) hm)
  refine ⟨⟨hb3.at 4 rfl, hb3.free 4⟩, ?_⟩
  have f2 : Fr [rb] w3 (w3.setCell ⟨rb, 4, none⟩ v1) := (Fr.refl _ w3).setCell _ _ (.inl (by simp))
  have hv1 : ∀ g, v1.ownBlock = some g → g ∉ [rb] := fun g hg hm => by simp at hm; subst hm; exact own_notin ha.own hb3 (by decide) (by simp [hg])
  have hav : ∀ g, av.ownBlock = some g → g ∉ [rb] := fun g hg hm => by simp at hm; subst hm; exact own_notin h23 hb3 (by decide) (by simp [hg])
  have hpl : ∀ g, v1.ownBlock = some g → g ∈ T ∨ w.heap.size ≤ g := fun g hg => by
    rcases ha.place with hp | hp
    · left; rw [hT]; rw [hp] at hg; simp [hg]
    · right; rw [hp] at hg; simp at hg; have := fW.size; omega
  refine ⟨[rb] ++ v1.ownBlock.toList ++ av.ownBlock.toList, ⟨⟨v1, av, rfl, hb3.set 4 v1, ?_, own_fr h23 f2 hav⟩, by rw [List.length_append]; have := h0.al; omega, h0.aw, by rw [List.length_append]; simp; omega, h0.lw, h0.lt, h0.lm, by rw [List.length_append]; simp; omega⟩, ?_, ?_⟩
  · have e1 : evs (L ++ [x]) = evs L ++ x.cells := by simp [evs]
    rw [e1, List.length_append]
    exact own_fr ha.own f2 hv1
  · intro g hg
    simp only [List.cons_append, List.nil_append, List.mem_cons, List.mem_append, Option.mem_toList] at hg
    rcases hg with rfl | hg | hg
    · left; rw [hT]; simp
    · exact hpl g hg
    · left; rw [hT]; simp [hg]
  · refine ((fW.mono (T := T) (by simp)).trans f (fun g hg => .inl ?_)).trans f2 (fun g hg => .inl ?_)
    · rw [hT]; simp at hg; simp [hg]
    · rw [hT]; simp at hg; simp [hg]
set_option maxRecDepth 100000 in
theorem roffer_ok (x : Ev) (h : Ref w T rb win tmo most acked L A) (hl : L.length < most) (hm : acked + L.length + 1 < 18446744073709551616) : Calls Try.prog 28 #[.pointer (some ⟨rb, 0, none⟩), x.val] w fun e w' => e = .returned (.tuple #[.int .u64 ((acked : Int) + ((L.length : Int) + 1)), .int .i64 0]) ∧ RefTo w T w' rb win tmo most acked (L ++ [x]) A := by
  have f0 := (Fr.refl [] w).alloc (.cells x.cells.toArray 56)
  have hZ0 := Blk.new w x.cells.toArray 56
  obtain ⟨z, hz⟩ : ∃ z, z = w.heap.size := ⟨_, rfl⟩
  rw [← hz] at hZ0
  have HH := Lib.hid (And.intro h (And.intro f0 hz))
  have hlm := h.lm
  have h0 := h.fr0 f0
  obtain ⟨bv, av, hT, hb, h1, h2⟩ := h0.ex
  obtain ⟨p, c, rfl⟩ := own_form h1
  have c2 := hb.at 2 (v := .int .i64 most) rfl
  have c3 := hb.at 3 (v := .int .u64 acked) rfl
  have c4 := hb.at 4 (v := .slice p L.length c) rfl
  have hd : decide ((most : Int) ≤ (L.length : Int)) = false := by simp; omega
  have hd2 : ¬ most ≤ L.length := by omega
  have k1 : IntKind.u64.wrap (L.length : Int) = L.length := by rw [IntKind.wrap_u64]; omega
  have k2 : IntKind.u64.wrap ((acked : Int) + (L.length : Int)) = (acked : Int) + L.length := by rw [IntKind.wrap_u64]; omega
  have j2 : ((acked : Int) + (L.length : Int) == 18446744073709551615) = false := beq_false (by omega)
  have ez := hZ0.one
  have hfold := fold_ev
  have hlen8 : ∀ e : Ev, e.cells.length = 8 := fun e => rfl
  have H0 := Lib.hid (And.intro h0 (And.intro hb (And.intro h1 (And.intro h2 hT))))
  clear h hT hb h1 h2 f0 hz h0 hZ0
  go_enter Try.func28, Try.ntmps28
  go_wp2_with fail
  have hz := HH.out.2.2
  simp only [← hz]
  clear hz
  generalize (w.alloc _) = w0 at *
  go_quiet (fail)
  go_wp2_with fail
  go_quiet (fail)
  go_wp2_with fail
  have n1 : rb ≠ w0.heap.size := by have := H0.out.2.1.lt; omega
  have n2 : z ≠ w0.heap.size := by
    unfold ev? at ez
    split at ez
    · rename_i h9 _ _ _ _ _ _ _
      exact Nat.ne_of_lt (World.block_lt_of_cell? w0 _ h9)
    · cases ez
  generalize hw9 : World.drewN w0 _ = w9
  have H9 := Lib.hid (show Fr [] w0 w9 by rw [← hw9]; exact (Fr.refl [] w0).drewN _)
  have hsz : w9.heap.size = w0.heap.size := by rw [← hw9]; rfl
  have c4' : w9.cell? ⟨rb, 4, none⟩ = some (.slice p L.length c) := by rw [← hw9]; exact c4
  have ez' : ev? w9 z 0 = some x.val := by rw [← hw9]; exact ez
  rw [← hsz] at n1 n2
  clear hw9 hsz c4 ez c2 c3
  have ez2 : ∀ m o, ev? ((w9.drewN m).alloc o) z 0 = some x.val := fun m o => ev_fr (((Fr.refl [] w9).drewN m).alloc o) ez'
  have c42 : ∀ m o, ((w9.drewN m).alloc o).cell? ⟨rb, 4, none⟩ = some (.slice p L.length c) := fun m o => (Fr.cell (S := []) (w := w9) (((Fr.refl [] w9).drewN m).alloc o) (World.block_lt_of_cell? w9 _ c4') (by simp)).trans c4'
  go_region_law
    ((refine step_app (by rfl) _ _ 42 (by rfl) 56 Ev.zero.val 8 40 Try.underlying42 info56b rfl (by decide) (.slice p L.length c) L.length (evs L) (by rfl) (by first | exact own_fr H0.out.2.2.1 ((H9.out.drewN _).alloc _) (fun _ _ => List.not_mem_nil) | exact own_fr H0.out.2.2.1 ((H9.out.drew).alloc _) (fun _ _ => List.not_mem_nil)) ⟨w9.heap.size, 0, none⟩ 1 1 x.cells (by rfl) rfl (by first | exact pnew_cells (w9.drewN _) x | exact pnew_cells w9.drew x) (pev_one x) (by unfold maxLen; omega) (by omega) ?_; intro v1 w3 happ; obtain ⟨⟨e1, e2⟩, e5⟩ := roffer_end w0 T rb win tmo most acked L A x _ p c v1 w3 av H0.out.1 H0.out.2.2.2.2 H0.out.2.1 H0.out.2.2.1 H0.out.2.2.2.1 hl hm (by first | exact (H9.out.drewN _).alloc _ | exact (H9.out.drew).alloc _) happ; obtain ⟨g1, cp1, rfl⟩ := own_succ happ.own; have E5 := Lib.hid e5; clear e5 happ))
  all_goals
    simp only [Exit.then]
    go_wp2_with fail
    generalize World.setCell _ _ _ = w4 at *
    obtain ⟨T2, r2, t2, f2⟩ := E5.out
    obtain ⟨bv2, av2, hT2, hb2, h12, h22⟩ := r2.ex
    obtain ⟨p2, cc2, rfl⟩ := own_form h12
    have d3 := hb2.at 3 (v := .int .u64 acked) rfl
    have d4 := hb2.at 4 (v := .slice p2 (L ++ [x]).length cc2) rfl
    rw [List.length_append, List.length_singleton] at d4
    have k3 : IntKind.u64.wrap ((L.length : Int) + 1) = (L.length : Int) + 1 := by rw [IntKind.wrap_u64]; omega
    have k4 : IntKind.u64.wrap ((acked : Int) + ((L.length : Int) + 1)) = (acked : Int) + ((L.length : Int) + 1) := by rw [IntKind.wrap_u64]; omega
    have HE := Lib.hid (And.intro r2 (And.intro t2 f2))
    clear r2 t2 f2 hT2 hb2 h12 h22 E5 e1 e2
    go_quiet (fail)
    go_wp2
    go_ret2
    refine ⟨rfl, T2, HE.out.1.fr0 ((Fr.refl [] w4).drewN _), fun b hb => (HE.out.2.1 b hb).imp id (fun h => Nat.le_trans HH.out.2.1.size h), ?_⟩
    exact (((HH.out.2.1.mono (T := T) (by simp)).trans HE.out.2.2 (fun b hb => .inl hb))).drewN _
end

end Go.Proofs.Ytehdhdocalbfpaa
