/-
  The document's sender: Next, by contracts.
-/
import Derived.Test.YtehdhdocalbfpaaPlayB
import Derived.Deep.CutBlock
import Derived.Deep.DeepCutAuto
namespace Go.Proofs.Ytehdhdocalbfpaa
open Go.RowKit ring
set_option linter.unusedVariables false
attribute [local go_sem ↓] Go.wp_at_zero Go.wp_at_succ newVar56
attribute [local go_sem] ev_layEv_same can_new run_storeEv0 run_newEv run_newEv'

theorem RefTo.pre {w0 w w' : World} {T : List Nat} {rb win tmo most acked : Nat} {L : List Ev} {A : List Int} (f : Fr [] w0 w) (h : RefTo w T w' rb win tmo most acked L A) : RefTo w0 T w' rb win tmo most acked L A := by
  obtain ⟨T', h1, h2, h3⟩ := h
  exact ⟨T', h1, fun b hb => (h2 b hb).imp id (fun h => Nat.le_trans f.size h), (f.mono (T := T) (by simp)).trans h3 (fun b hb => .inl hb)⟩
theorem RefTo.then0 {w w1 w' : World} {T : List Nat} {rb win tmo most acked : Nat} {L : List Ev} {A : List Int} (h : RefTo w T w1 rb win tmo most acked L A) (f : Fr [] w1 w') : RefTo w T w' rb win tmo most acked L A := by
  obtain ⟨T', h1, h2, h3⟩ := h
  exact ⟨T', h1.fr0 f, h2, h3.trans f (by simp)⟩
theorem app_clk {W w3 : World} {A : List Int} {v1 : Value} (ha : Appended W 51 1 (.slice none 0 0) (0 + A.length) ([] ++ u32s A) v1 w3) (hA : 0 < A.length) : ∃ g1 cp1, v1 = .slice (some ⟨g1, 0, none⟩) A.length cp1 ∧ w3.ownsRow 0 51 1 (.slice (some ⟨g1, 0, none⟩) A.length cp1) A.length (u32s A) ∧ W.heap.size ≤ g1 ∧ Fr [] W w3 := by
  have h1 := ha.own
  rw [Nat.zero_add, List.nil_append] at h1
  have f := ha.fr
  rcases h1.2 with ⟨_, h0⟩ | ⟨g, cap, cur, rfl, _⟩
  · omega
  · refine ⟨g, cap, rfl, h1, ?_, f.mono (by simp [Value.ownBlock])⟩
    rcases ha.place with hp | hp
    · simp [Value.ownBlock] at hp
    · simp [Value.ownBlock] at hp; omega
section
variable (w : World) (T : List Nat) (rb win tmo most acked : Nat) (L : List Ev) (A : List Int)
/-- Other clocks are laid in. -/
theorem rset_at (h : Ref w T rb win tmo most acked L A) (W : World) (f : Fr [] w W) (v1 : Value) (A2 : List Int) (ho : W.ownsRow 0 51 1 v1 A2.length (u32s A2)) (hn : ∀ g, v1.ownBlock = some g → w.heap.size ≤ g) (h1 : A2.length ≤ L.length) (h2 : A2.length ≤ win) :
    RefTo w T (W.setCell ⟨rb, 5, none⟩ v1) rb win tmo most acked L A2 := by
  obtain ⟨bv, av, hT, hb, o1, o2⟩ := h.ex
  have hbW := f.blk hb (by simp)
  have o1W := own_fr o1 f (by simp)
  have f2 : Fr [rb] W (W.setCell ⟨rb, 5, none⟩ v1) := (Fr.refl _ W).setCell _ _ (.inl (by simp))
  have hbv : ∀ g, bv.ownBlock = some g → g ∉ [rb] := fun g hg hm => by simp at hm; subst hm; exact own_notin o1W hbW (by decide) (by simp [hg])
  have hv1 : ∀ g, v1.ownBlock = some g → g ∉ [rb] := fun g hg hm => by simp at hm; subst hm; have := hn _ hg; have := hb.lt; omega
  refine ⟨[rb] ++ bv.ownBlock.toList ++ v1.ownBlock.toList, ⟨⟨bv, v1, rfl, hbW.set 5 v1, own_fr o1W f2 hbv, own_fr ho f2 hv1⟩, h1, h2, h.ll, h.lw, h.lt, h.lm, h.la⟩, ?_, ?_⟩
  · intro g hg
    simp only [List.cons_append, List.nil_append, List.mem_cons, List.mem_append, Option.mem_toList] at hg
    rcases hg with rfl | hg | hg
    · left; rw [hT]; simp
    · left; rw [hT]; simp [hg]
    · exact .inr (hn g hg)
  · refine (f.mono (T := T) (by simp)).trans f2 (fun g hg => .inl ?_)
    rw [hT]; simp at hg; simp [hg]
set_option maxRecDepth 100000 in
theorem rnext_none (now : Int) (h : Ref w T rb win tmo most acked L A) (hn : 0 ≤ now ∧ now < 4294967296) (hA : U32s A) (ho : wayOf win tmo L.length A now = none) : Calls Try.prog 30 #[.pointer (some ⟨rb, 0, none⟩), .int .u32 now] w fun e w' => e = .returned (.tuple #[.int .u64 0, Ev.zero.val, .bool false]) ∧ RefTo w T w' rb win tmo most acked L A := by
  obtain ⟨z, hz⟩ : ∃ z, z = w.heap.size := ⟨_, rfl⟩
  have fr0 : Fr [] w (w.alloc (.cells Ev.zero.cells.toArray 56)) := (Fr.refl [] w).alloc _
  have hZ0 := Blk.new w Ev.zero.cells.toArray 56
  have h0 := h.fr0 fr0
  rw [← hz] at hZ0
  have HH := Lib.hid (And.intro fr0 (And.intro hz h))
  clear fr0 h
  go_enter Try.func30, Try.ntmps30
  go_wp2_with fail
  simp only [zero_cells, ← hz]
  generalize (w.alloc _) = w0 at *
  clear hz
  have hy := ref_way w0 T rb win tmo most acked L A now h0 hn hA
  rw [ho, wayNo] at hy
  have HY := Lib.hid hy
  have H0 := Lib.hid (And.intro h0 hZ0)
  clear h0 hZ0 ho hy hA
  (with_reducible refine HY.out.mono ?_)
  rintro e w1 ⟨rfl, m, rfl⟩
  have hcan := H0.out.2.oneCan
  go_wp2
  have hb : Blk (layEv (w0.drewN m) z 0 Ev.zero) z Ev.zero.cells.toArray 56 := (H0.out.2.drewN m).setOne
  refine bodyPost_ret (v := .tuple #[.int .u64 0, Ev.zero.val, .bool false]) (results_tct rfl _ _ z 0 _ _ _ rfl rfl rfl hb.one) rfl ⟨rfl, ?_⟩
  obtain ⟨fr0, hz, h⟩ := HH.out
  have f1 : Fr [z] w0 (layEv (w0.drewN m) z 0 Ev.zero) := ((Fr.refl [z] w0).drewN m).setEv 0 Ev.zero (.inl (by simp))
  exact RefTo.same h ((fr0.trans f1 (by simp [hz])).mono (by simp))
theorem again_end (now : Int) (m : Nat) (bv : Value) (o cap g1 cp1 : Nat) (w3 : World) (h : Ref w T rb win tmo most acked L A) (hb : Blk w rb #[.int .i64 win, .int .i64 tmo, .int .i64 most, .int .u64 acked, bv, .slice (some ⟨o, 0, none⟩) A.length cap] 81)
    (ho : w3.ownsRow 0 51 1 (.slice (some ⟨g1, 0, none⟩) A.length cp1) A.length (u32s A)) (hg : (w.drewN m).heap.size ≤ g1) (f3 : Fr [] (w.drewN m) w3) (hA : 0 < A.length) :
    ((∃ a0, w3.cell? ⟨g1, 0, none⟩ = some (.int .u32 a0)) ∧ w3.frozen? ⟨g1, 0, none⟩ = false ∧ (w3.setCell ⟨g1, 0, none⟩ (.int .u32 now)).cell? ⟨rb, 5, none⟩ = some (.slice (some ⟨o, 0, none⟩) A.length cap) ∧ w3.frozen? ⟨rb, 5, none⟩ = false) ∧
      RefTo w T ((w3.setCell ⟨g1, 0, none⟩ (.int .u32 now)).setCell ⟨rb, 5, none⟩ (.slice (some ⟨g1, 0, none⟩) A.length cp1)) rb win tmo most acked L (A.set 0 now) := by
  have hg' : w.heap.size ≤ g1 := hg
  have f : Fr [] w w3 := ((Fr.refl [] w).drewN m).trans f3 (by simp)
  have hb3 := f.blk hb (by simp)
  have hne : rb ≠ g1 := by have := hb.lt; omega
  have hb4 := hb3.other ⟨g1, 0, none⟩ (.int .u32 now) hne
  have hs := (ho.stored 0 (.int .u32 now)).1
  have e1 : (u32s A).set 0 (.int .u32 now) = u32s (A.set 0 now) := by simp [u32s, List.map_set]
  rw [e1] at hs
  refine ⟨⟨⟨A.getD 0 0, ?_⟩, ho.frozenAt 0, hb4.at 5 rfl, hb3.free 5⟩, ?_⟩
  · have := ho.cells (g := g1) rfl 0 (.int .u32 (A.getD 0 0)) (by simp [u32s, List.getD_eq_getElem?_getD, hA])
    rw [Addr.add_lit] at this
    exact this
  · refine rset_at w T rb win tmo most acked L A h _ (f.setCell _ _ (.inr (by simpa using hg'))) _ (A.set 0 now) (by rw [List.length_set]; exact hs) (fun g hg => ?_) (by rw [List.length_set]; exact h.al) (by rw [List.length_set]; exact h.aw)
    have : g1 = g := by simpa [Value.ownBlock] using hg
    omega
set_option maxRecDepth 100000 in
theorem rnext_again (now : Int) (x : Ev) (h : Ref w T rb win tmo most acked L A) (hn : 0 ≤ now ∧ now < 4294967296) (hA : U32s A) (ho : wayOf win tmo L.length A now = some false) (hx : L[0]? = some x) : Calls Try.prog 30 #[.pointer (some ⟨rb, 0, none⟩), .int .u32 now] w fun e w' => e = .returned (.tuple #[.int .u64 ((acked : Int) + 1), x.val, .bool true]) ∧ RefTo w T w' rb win tmo most acked L (A.set 0 now) := by
  obtain ⟨z, hz⟩ : ∃ z, z = w.heap.size := ⟨_, rfl⟩
  have fr0 : Fr [] w (w.alloc (.cells Ev.zero.cells.toArray 56)) := (Fr.refl [] w).alloc _
  have hZ0 := Blk.new w Ev.zero.cells.toArray 56
  have h0 := h.fr0 fr0
  rw [← hz] at hZ0
  have hal := h.al
  have hla := h.la
  have haw := h.aw
  have hlw := h.lw
  have hAl := wayOf_again ho
  have HH := Lib.hid (And.intro fr0 (And.intro hz h))
  clear fr0 h
  go_enter Try.func30, Try.ntmps30
  go_wp2_with fail
  simp only [zero_cells, ← hz]
  generalize (w.alloc _) = w0 at *
  clear hz
  have hy := ref_way w0 T rb win tmo most acked L A now h0 hn hA
  rw [ho, wayNo] at hy
  have HY := Lib.hid hy
  obtain ⟨bv, av, hT, hb, o1, o2⟩ := h0.ex
  obtain ⟨o, cap, rfl⟩ : ∃ o cap, av = .slice (some ⟨o, 0, none⟩) A.length cap := by
    obtain ⟨o, cap, hh⟩ := own_succ (k := A.length - 1) (by rw [show A.length - 1 + 1 = A.length by omega]; exact o2)
    exact ⟨o, cap, by rw [hh, show A.length - 1 + 1 = A.length by omega]⟩
  have H0 := Lib.hid (And.intro h0 (And.intro hZ0 (And.intro hb (And.intro o1 o2))))
  have c5 := hb.at 5 (v := .slice (some ⟨o, 0, none⟩) A.length cap) rfl
  have hne : ((0 : Int) == (A.length : Int)) = false := beq_false (by omega)
  have HL := Lib.hid hAl
  have i0 : (0 : Int) < (A.length : Int) := by omega
  clear h0 hZ0 ho hy hA hb o1 o2 hT
  (with_reducible refine HY.out.mono ?_)
  rintro e w1 ⟨rfl, m, rfl⟩
  have hc : ∀ j u, (u32s A)[j]? = some u → (w0.drewN m).cell? ((⟨o, 0, none⟩ : Addr).add j) = some u := fun j u hj => H0.out.2.2.2.2.cells (g := o) rfl j u hj
  have HC := Lib.hid hc
  clear hc
  go_wp2_with (at_builtin; go_must (refine wpList_app _ rfl _ _ 43 rfl 51 (.int .u32 0) 1 4 Try.underlying43 info51 rfl (by decide) (.slice none 0 0) 0 [] rfl (World.ownsRow_nil _ _ _ _) ⟨o, 0, none⟩ A.length cap (u32s A) rfl (by rw [u32s_len]; omega) HC.out (u32s_one _) (by unfold maxLen; omega) (by omega) ?_); intro v1 w3 happ; obtain ⟨g1, cp1, rfl, hown, hg1, f3⟩ := app_clk happ HL.out; obtain ⟨⟨⟨a0, q1⟩, q2, q3, q4⟩, q5⟩ := again_end w0 T rb win tmo most acked L A now m bv o cap g1 cp1 w3 H0.out.1 H0.out.2.2.1 hown hg1 f3 HL.out; have Q5 := Lib.hid q5; clear q5 happ hown hg1 f3)
  generalize World.setCell (World.setCell _ _ _) _ _ = w5 at *
  obtain ⟨T2, r2, t2, f2⟩ := Q5.out
  obtain ⟨bv2, av2, hT2, hb2, h12, h22⟩ := r2.ex
  obtain ⟨gb, cb, hbv⟩ : ∃ gb cb, bv2 = .slice (some ⟨gb, 0, none⟩) L.length cb := by
    rcases h12.2 with ⟨_, h9⟩ | ⟨g, cap9, cur, h9, _⟩
    · omega
    · exact ⟨g, cap9, h9⟩
  subst hbv
  have d3 := hb2.at 3 (v := .int .u64 acked) rfl
  have d4 := hb2.at 4 (v := .slice (some ⟨gb, 0, none⟩) L.length cb) rfl
  have hx0 := own_ev h12 rfl hx
  rw [Nat.zero_mul] at hx0
  have hzT : z ∉ T := fun hm => by have := HH.out.2.2.lt_size _ hm; have := HH.out.2.1; omega
  have hz5 := f2.blk H0.out.2.1 hzT
  have hzT2 : z ∉ T2 := fun hm => by
    rcases t2 _ hm with h1 | h1
    · exact hzT h1
    · have := H0.out.2.1.lt; omega
  have hcan := hz5.oneCan
  have n1 : rb ≠ z := hb2.ne hz5 (by decide)
  have n2 : gb ≠ z := fun e => hzT2 (by rw [hT2, ← e]; simp [Value.ownBlock])
  have hfin : ∀ m', ev? (layEv (w5.drewN m') z 0 x) z 0 = some x.val := fun m' => (hz5.drewN m').setOne.one
  have hfin' : ev? (layEv w5.drew z 0 x) z 0 = some x.val := (hz5.drew).setOne.one
  have fz : Fr [z] w5 (layEv w5.drew z 0 x) := ((Fr.refl [z] w5).drew).setEv 0 x (.inl (by simp))
  have hR : RefTo w T (layEv w5.drew z 0 x) rb win tmo most acked L (A.set 0 now) := by
    obtain ⟨f0, hz, h⟩ := HH.out
    refine ⟨T2, r2.fr fz (fun k hk hm => by simp at hm; rw [hm] at hk; exact hzT2 hk), fun b hb => (t2 b hb).imp id (fun h => Nat.le_trans f0.size h), ?_⟩
    exact ((f0.mono (T := T) (by simp)).trans f2 (fun b hb => .inl hb)).trans fz (by simp [hz])
  have k1 : IntKind.u64.wrap (0 : Int) = 0 := by rw [IntKind.wrap_u64]; omega
  have k2 : IntKind.u64.wrap (acked : Int) = acked := by rw [IntKind.wrap_u64]; omega
  have k3 : IntKind.u64.wrap ((acked : Int) + 1) = (acked : Int) + 1 := by rw [IntKind.wrap_u64]; omega
  have k4 : (0 : Int) < (L.length : Int) := by omega
  have k5 : 0 < L.length := by omega
  have HF := Lib.hid (And.intro hfin' hR)
  clear r2 t2 f2 hT2 hb2 h12 h22 hz5 hzT hzT2 hfin hfin' fz hR Q5 q1 q2 q3 q4 hx
  go_region_held3 (fun w' => w'.cell? ⟨rb, 3, none⟩ = some (.int .u64 acked) ∧ w'.cell? ⟨rb, 4, none⟩ = some (.slice (some ⟨gb, 0, none⟩) L.length cb) ∧ ev? w' gb 0 = some x.val) ((try simp only [World.cell?_drew, ev_drew, cell_layEv' _ _ _ _ _ _ n1, ev_layEv _ _ _ _ _ _ n2]; exact ⟨d3, d4, hx0⟩)) (fail)
  simp only [Exit.then]
  go_wp2
  refine bodyPost_ret (v := .tuple #[.int .u64 ((acked : Int) + 1), x.val, .bool true]) (results_tct rfl _ _ z 0 _ _ _ rfl rfl rfl HF.out.1) rfl ⟨rfl, HF.out.2⟩
theorem fresh_end (now : Int) (m : Nat) (bv av : Value) (v1 : Value) (w3 : World) (W2 : World) (g2 cp2 : Nat) (w4 : World) (h : Ref w T rb win tmo most acked L A) (hb : Blk w rb #[.int .i64 win, .int .i64 tmo, .int .i64 most, .int .u64 acked, bv, av] 81)
    (f3 : Fr [] w w3) (hv1 : ∀ g, v1.ownBlock = some g → w.heap.size ≤ g) (fa : Fr [] w3 W2) (ha : Appended W2 51 1 v1 (A.length + 1) (u32s A ++ [.int .u32 now]) (.slice (some ⟨g2, 0, none⟩) (A.length + 1) cp2) w4) (hl : A.length < L.length ∧ A.length < win) :
    ((∃ a0, w4.cell? ⟨g2, A.length, none⟩ = some (.int .u32 a0)) ∧ w4.frozen? ⟨g2, A.length, none⟩ = false ∧ (w4.setCell ⟨g2, A.length, none⟩ (.int .u32 now)).cell? ⟨rb, 5, none⟩ = some av ∧ w4.frozen? ⟨rb, 5, none⟩ = false) ∧
      RefTo w T ((w4.setCell ⟨g2, A.length, none⟩ (.int .u32 now)).setCell ⟨rb, 5, none⟩ (.slice (some ⟨g2, 0, none⟩) (A.length + 1) cp2)) rb win tmo most acked L (A ++ [now]) := by
  have fW := f3.trans fa (by simp)
  have hg : w.heap.size ≤ g2 := by
    rcases ha.place with hp | hp
    · exact hv1 g2 hp.symm
    · have : g2 = W2.heap.size := by simpa [Value.ownBlock] using hp
      have := fW.size
      omega
  have f4 : Fr [] w w4 := fW.trans (ha.fr) (fun g hg => .inr (hv1 g (by simpa using hg)))
  have hb4 := f4.blk hb (by simp)
  have hne : rb ≠ g2 := by have := hb.lt; omega
  have hb5 := hb4.other ⟨g2, A.length, none⟩ (.int .u32 now) hne
  have e1 : u32s (A ++ [now]) = u32s A ++ [Value.int .u32 now] := by simp [u32s]
  have ho : w4.ownsRow 0 51 1 (.slice (some ⟨g2, 0, none⟩) (A.length + 1) cp2) (A.length + 1) (u32s A ++ [.int .u32 now]) := ha.own
  have hs := (ho.stored A.length (.int .u32 now)).1
  have e2 : (u32s A ++ [Value.int .u32 now]).set A.length (Value.int .u32 now) = u32s A ++ [Value.int .u32 now] := by
    rw [List.set_append_right _ _ (by rw [u32s_len]; omega), u32s_len, Nat.sub_self]; rfl
  rw [e2] at hs
  refine ⟨⟨⟨now, ?_⟩, ho.frozenAt _, hb5.at 5 rfl, hb4.free 5⟩, ?_⟩
  · have := ho.cells (g := g2) rfl A.length (.int .u32 now) (by rw [List.getElem?_append_right (by rw [u32s_len]; omega), u32s_len, Nat.sub_self]; rfl)
    rw [Addr.add_lit, Nat.zero_add] at this
    exact this
  · refine rset_at w T rb win tmo most acked L A h _ (f4.setCell _ _ (.inr (by simpa using hg))) _ (A ++ [now]) (by rw [e1, List.length_append]; exact hs) (fun g hg' => ?_) (by rw [List.length_append]; simp; omega) (by rw [List.length_append]; simp; omega)
    have : g2 = g := by simpa [Value.ownBlock] using hg'
    omega
set_option maxRecDepth 100000 in
theorem rnext_fresh (now : Int) (x : Ev) (h : Ref w T rb win tmo most acked L A) (hn : 0 ≤ now ∧ now < 4294967296) (hA : U32s A) (ho : wayOf win tmo L.length A now = some true) (hx : L[A.length]? = some x) : Calls Try.prog 30 #[.pointer (some ⟨rb, 0, none⟩), .int .u32 now] w fun e w' => e = .returned (.tuple #[.int .u64 ((acked : Int) + (A.length : Int) + 1), x.val, .bool true]) ∧ RefTo w T w' rb win tmo most acked L (A ++ [now]) := by
  obtain ⟨z, hz⟩ : ∃ z, z = w.heap.size := ⟨_, rfl⟩
  have fr0 : Fr [] w (w.alloc (.cells Ev.zero.cells.toArray 56)) := (Fr.refl [] w).alloc _
  have hZ0 := Blk.new w Ev.zero.cells.toArray 56
  have h0 := h.fr0 fr0
  rw [← hz] at hZ0
  have hal := h.al
  have hla := h.la
  have haw := h.aw
  have hlw := h.lw
  have hAl := wayOf_fresh ho
  have HH := Lib.hid (And.intro fr0 (And.intro hz h))
  clear fr0 h
  go_enter Try.func30, Try.ntmps30
  go_wp2_with fail
  simp only [zero_cells, ← hz]
  generalize (w.alloc _) = w0 at *
  clear hz
  have hy := ref_way w0 T rb win tmo most acked L A now h0 hn hA
  rw [ho, wayNo] at hy
  have HY := Lib.hid hy
  obtain ⟨bv, av, hT, hb, o1, o2⟩ := h0.ex
  have i0 : ¬ (A.length : Int) < 0 := by omega
  have j0 : (0 : Int) ≤ (A.length : Int) := by omega
  have j1 : (A.length : Int) < (A.length : Int) + 1 := by omega
  have HL := Lib.hid hAl.1
  rcases o2.2 with ⟨h9, h90⟩ | ⟨o, cap, cur, h9, _⟩
  · subst h9
    have hA0 : A = [] := List.length_eq_zero_iff.1 h90
    subst hA0
    have H0 := Lib.hid (And.intro h0 (And.intro hZ0 (And.intro hb (And.intro o1 (And.intro o2 hAl)))))
    have c5 := hb.at 5 (v := .slice none 0 0) rfl
    clear h0 hZ0 ho hy hA hb o1 o2 hT hAl
    (with_reducible refine HY.out.mono ?_)
    rintro e w1 ⟨rfl, m, rfl⟩
    go_upto_region 6 with fail
    obtain ⟨w3, hw3⟩ : ∃ w3, w3 = w0.drewN m := ⟨_, rfl⟩
    have hown : w3.ownsRow 0 51 1 (.slice none 0 0) 0 [] := World.ownsRow_nil _ _ _ _
    have hv1 : ∀ g, (Value.slice none 0 0).ownBlock = some g → w0.heap.size ≤ g := fun g hg => by simp [Value.ownBlock] at hg
    have f3 : Fr [] w0 w3 := by rw [hw3]; exact (Fr.refl [] w0).drewN m
    rw [← hw3]
    clear hw3
    have hfa : Fr [] w3 (w3.alloc (.cells #[.int .u32 now] 51)) := (Fr.refl [] w3).alloc _
    have HO := Lib.hid (And.intro (own_fr hown hfa (by simp)) (And.intro hv1 (And.intro f3 hfa)))
    clear hown hv1 f3 hfa
    go_wp2_with (at_builtin; go_must (refine wpList_app _ rfl _ _ 43 rfl 51 (.int .u32 0) 1 4 Try.underlying43 info51 rfl (by decide) (.slice none 0 0) 0 [] rfl HO.out.1 ⟨w3.heap.size, 0, none⟩ 1 1 [.int .u32 now] rfl rfl (new_one w3 _ _ _ rfl) (by simp [Value.oneCell']) (by unfold maxLen; omega) (by omega) ?_); intro v2 w4 happ; obtain ⟨g2, cp2, rfl⟩ := own_succ happ.own; obtain ⟨⟨⟨a0, q1⟩, q2, q3, q4⟩, q5⟩ := fresh_end w0 T rb win tmo most acked L [] now 0 bv _ (.slice none 0 0) w3 _ g2 cp2 w4 H0.out.1 H0.out.2.2.1 HO.out.2.2.1 HO.out.2.1 HO.out.2.2.2 happ H0.out.2.2.2.2.2; simp only [List.length_nil, Nat.zero_add, List.nil_append] at q1 q2 q3 q5; have Q5 := Lib.hid q5; clear q5 happ)
    obtain ⟨hal2, hal3⟩ := H0.out.2.2.2.2.2
    generalize World.setCell (World.setCell _ _ _) _ _ = w5 at *
    obtain ⟨T2, r2, t2, f2⟩ := Q5.out
    obtain ⟨bv2, av2, hT2, hb2, h12, h22⟩ := r2.ex
    obtain ⟨gb, cb, hbv⟩ : ∃ gb cb, bv2 = .slice (some ⟨gb, 0, none⟩) L.length cb := by
      rcases h12.2 with ⟨_, h9⟩ | ⟨g, cap9, cur, h9, _⟩
      · omega
      · exact ⟨g, cap9, h9⟩
    subst hbv
    have d3 := hb2.at 3 (v := .int .u64 acked) rfl
    have d4 := hb2.at 4 (v := .slice (some ⟨gb, 0, none⟩) L.length cb) rfl
    have hx0 := own_ev h12 rfl hx
    have hzT : z ∉ T := fun hm => by have := HH.out.2.2.lt_size _ hm; have := HH.out.2.1; omega
    have hz5 := f2.blk H0.out.2.1 hzT
    have hzT2 : z ∉ T2 := fun hm => by
      rcases t2 _ hm with h1 | h1
      · exact hzT h1
      · have := H0.out.2.1.lt; omega
    have hcan := hz5.oneCan
    have n1 : rb ≠ z := hb2.ne hz5 (by decide)
    have n2 : gb ≠ z := fun e => hzT2 (by rw [hT2, ← e]; simp [Value.ownBlock])
    have hfin : ∀ m', ev? (layEv (w5.drewN m') z 0 x) z 0 = some x.val := fun m' => (hz5.drewN m').setOne.one
    have hfin' : ev? (layEv w5.drew z 0 x) z 0 = some x.val := (hz5.drew).setOne.one
    have fz : Fr [z] w5 (layEv w5.drew z 0 x) := ((Fr.refl [z] w5).drew).setEv 0 x (.inl (by simp))
    have hR : RefTo w T (layEv w5.drew z 0 x) rb win tmo most acked L [now] := by
      obtain ⟨f0, hz, h⟩ := HH.out
      refine ⟨T2, r2.fr fz (fun k hk hm => by simp at hm; rw [hm] at hk; exact hzT2 hk), fun b hb => (t2 b hb).imp id (fun h => Nat.le_trans f0.size h), ?_⟩
      exact ((f0.mono (T := T) (by simp)).trans f2 (fun b hb => .inl hb)).trans fz (by simp [hz])
    have k1 : IntKind.u64.wrap (0 : Int) = 0 := by rw [IntKind.wrap_u64]; omega
    have k2 : IntKind.u64.wrap ((acked : Int)) = (acked : Int) + 0 := by rw [IntKind.wrap_u64]; omega
    have k3 : IntKind.u64.wrap ((acked : Int) + 1) = (acked : Int) + 0 + 1 := by rw [IntKind.wrap_u64]; omega
    have k4 : (0 : Int) < (L.length : Int) := by omega
    have k5 : 0 < L.length := HL.out
    have HF := Lib.hid (And.intro hfin' hR)
    clear r2 t2 f2 hT2 hb2 h12 h22 hz5 hzT hzT2 hfin hfin' fz hR Q5 q1 q2 q3 q4 hx
    go_region_held3 (fun w' => w'.cell? ⟨rb, 3, none⟩ = some (.int .u64 acked) ∧ w'.cell? ⟨rb, 4, none⟩ = some (.slice (some ⟨gb, 0, none⟩) L.length cb) ∧ ev? w' gb (0) = some x.val) ((try simp only [World.cell?_drew, ev_drew, cell_layEv' _ _ _ _ _ _ n1, ev_layEv _ _ _ _ _ _ n2]; exact ⟨d3, d4, hx0⟩)) (fail)
    simp only [Exit.then]
    go_wp2
    refine bodyPost_ret (v := .tuple #[.int .u64 ((acked : Int) + 1), x.val, .bool true]) (results_tct rfl _ _ z 0 _ _ _ rfl rfl rfl HF.out.1) rfl ⟨rfl, HF.out.2⟩
  · subst h9
    have H0 := Lib.hid (And.intro h0 (And.intro hZ0 (And.intro hb (And.intro o1 (And.intro o2 hAl)))))
    have c5 := hb.at 5 (v := .slice (some ⟨o, 0, none⟩) A.length cap) rfl
    clear h0 hZ0 ho hy hA hb o1 o2 hT hAl
    (with_reducible refine HY.out.mono ?_)
    rintro e w1 ⟨rfl, m, rfl⟩
    have hc : ∀ j u, (u32s A)[j]? = some u → (w0.drewN m).cell? ((⟨o, 0, none⟩ : Addr).add j) = some u := fun j u hj => H0.out.2.2.2.2.1.cells (g := o) rfl j u hj
    have HC := Lib.hid hc
    clear hc
    go_upto_region 6 with (at_builtin; go_must (refine wpList_app _ rfl _ _ 43 rfl 51 (.int .u32 0) 1 4 Try.underlying43 info51 rfl (by decide) (.slice none 0 0) 0 [] rfl (World.ownsRow_nil _ _ _ _) ⟨o, 0, none⟩ A.length cap (u32s A) rfl (by rw [u32s_len]; omega) HC.out (u32s_one _) (by unfold maxLen; omega) (by omega) ?_); intro v1 w3 happ)
    obtain ⟨hown, hv1, f3⟩ : w3.ownsRow 0 51 1 v1 A.length (u32s A) ∧ (∀ g, v1.ownBlock = some g → w0.heap.size ≤ g) ∧ Fr [] w0 w3 := by
      have h1 := happ.own
      rw [Nat.zero_add, List.nil_append] at h1
      refine ⟨h1, fun g hg => ?_, ((Fr.refl [] w0).drewN m).trans (happ.fr.mono (T := []) (by simp [Value.ownBlock])) (by simp)⟩
      rcases happ.place with hp | hp
      · rw [hp] at hg; simp [Value.ownBlock] at hg
      · rw [hp] at hg; simp at hg; omega
    clear happ
    obtain ⟨p1, cc1, rfl⟩ := own_form hown
    have hfa : Fr [] w3 (w3.alloc (.cells #[.int .u32 now] 51)) := (Fr.refl [] w3).alloc _
    have HO := Lib.hid (And.intro (own_fr hown hfa (by simp)) (And.intro hv1 (And.intro f3 hfa)))
    clear hown hv1 f3 hfa
    go_wp2_with (at_builtin; go_must (refine wpList_app _ rfl _ _ 43 rfl 51 (.int .u32 0) 1 4 Try.underlying43 info51 rfl (by decide) (.slice p1 A.length cc1) A.length (u32s A) rfl HO.out.1 ⟨w3.heap.size, 0, none⟩ 1 1 [.int .u32 now] rfl rfl (new_one w3 _ _ _ rfl) (by simp [Value.oneCell']) (by unfold maxLen; omega) (by omega) ?_); intro v2 w4 happ; obtain ⟨g2, cp2, rfl⟩ := own_succ happ.own; obtain ⟨⟨⟨a0, q1⟩, q2, q3, q4⟩, q5⟩ := fresh_end w0 T rb win tmo most acked L A now 0 bv _ (.slice p1 A.length cc1) w3 _ g2 cp2 w4 H0.out.1 H0.out.2.2.1 HO.out.2.2.1 HO.out.2.1 HO.out.2.2.2 happ H0.out.2.2.2.2.2; have Q5 := Lib.hid q5; clear q5 happ)
    obtain ⟨hal2, hal3⟩ := H0.out.2.2.2.2.2
    generalize World.setCell (World.setCell _ _ _) _ _ = w5 at *
    obtain ⟨T2, r2, t2, f2⟩ := Q5.out
    obtain ⟨bv2, av2, hT2, hb2, h12, h22⟩ := r2.ex
    obtain ⟨gb, cb, hbv⟩ : ∃ gb cb, bv2 = .slice (some ⟨gb, 0, none⟩) L.length cb := by
      rcases h12.2 with ⟨_, h9⟩ | ⟨g, cap9, cur, h9, _⟩
      · omega
      · exact ⟨g, cap9, h9⟩
    subst hbv
    have d3 := hb2.at 3 (v := .int .u64 acked) rfl
    have d4 := hb2.at 4 (v := .slice (some ⟨gb, 0, none⟩) L.length cb) rfl
    have hx0 := own_ev h12 rfl hx
    have hzT : z ∉ T := fun hm => by have := HH.out.2.2.lt_size _ hm; have := HH.out.2.1; omega
    have hz5 := f2.blk H0.out.2.1 hzT
    have hzT2 : z ∉ T2 := fun hm => by
      rcases t2 _ hm with h1 | h1
      · exact hzT h1
      · have := H0.out.2.1.lt; omega
    have hcan := hz5.oneCan
    have n1 : rb ≠ z := hb2.ne hz5 (by decide)
    have n2 : gb ≠ z := fun e => hzT2 (by rw [hT2, ← e]; simp [Value.ownBlock])
    have hfin : ∀ m', ev? (layEv (w5.drewN m') z 0 x) z 0 = some x.val := fun m' => (hz5.drewN m').setOne.one
    have hfin' : ev? (layEv w5.drew z 0 x) z 0 = some x.val := (hz5.drew).setOne.one
    have fz : Fr [z] w5 (layEv w5.drew z 0 x) := ((Fr.refl [z] w5).drew).setEv 0 x (.inl (by simp))
    have hR : RefTo w T (layEv w5.drew z 0 x) rb win tmo most acked L (A ++ [now]) := by
      obtain ⟨f0, hz, h⟩ := HH.out
      refine ⟨T2, r2.fr fz (fun k hk hm => by simp at hm; rw [hm] at hk; exact hzT2 hk), fun b hb => (t2 b hb).imp id (fun h => Nat.le_trans f0.size h), ?_⟩
      exact ((f0.mono (T := T) (by simp)).trans f2 (fun b hb => .inl hb)).trans fz (by simp [hz])
    have k1 : IntKind.u64.wrap (A.length : Int) = A.length := by rw [IntKind.wrap_u64]; omega
    have k2 : IntKind.u64.wrap ((acked : Int) + (A.length : Int)) = (acked : Int) + A.length := by rw [IntKind.wrap_u64]; omega
    have k3 : IntKind.u64.wrap ((acked : Int) + (A.length : Int) + 1) = (acked : Int) + A.length + 1 := by rw [IntKind.wrap_u64]; omega
    have k4 : (A.length : Int) < (L.length : Int) := by omega
    have k5 : A.length < L.length := HL.out
    have HF := Lib.hid (And.intro hfin' hR)
    clear r2 t2 f2 hT2 hb2 h12 h22 hz5 hzT hzT2 hfin hfin' fz hR Q5 q1 q2 q3 q4 hx
    go_region_held3 (fun w' => w'.cell? ⟨rb, 3, none⟩ = some (.int .u64 acked) ∧ w'.cell? ⟨rb, 4, none⟩ = some (.slice (some ⟨gb, 0, none⟩) L.length cb) ∧ ev? w' gb (A.length * 8) = some x.val) ((try simp only [World.cell?_drew, ev_drew, cell_layEv' _ _ _ _ _ _ n1, ev_layEv _ _ _ _ _ _ n2]; exact ⟨d3, d4, hx0⟩)) (fail)
    simp only [Exit.then]
    go_wp2
    refine bodyPost_ret (v := .tuple #[.int .u64 ((acked : Int) + (A.length : Int) + 1), x.val, .bool true]) (results_tct rfl _ _ z 0 _ _ _ rfl rfl rfl HF.out.1) rfl ⟨rfl, HF.out.2⟩
end

end Go.Proofs.Ytehdhdocalbfpaa
