/-
  Bytes made of a text, and what is appended to them: their row bears a mark behind its end. Script, the document: the line of a step. Printed by genLr.py. Script, the document: the line of a command, and of any step. Printed by genLs.py. Script, the document: Line, of any step.
-/
import Derived.Test.YtbpgpjibljgiiaaDoorLnD
import Derived.Lib.ConvBytes
import Derived.Lib.AppendStr
namespace Go.Proofs.YtbpgpjibljgiiaaDoor
open Go.RowKit
set_option linter.unusedVariables false
set_option linter.unusedSimpArgs false
/-- Bytes whose row may be written, in memory that is not older than n0. -/
def MkV (W : World) (n0 : Nat) (v : Value) (l : List Int) : Prop :=
  ∃ g cap cur fz, v = .slice (some ⟨g, 0, none⟩) l.length cap ∧ n0 ≤ g ∧ W.heap[g]? = some (.cells cur 5 fz) ∧ cur.size = cap ∧ (cap ≤ fz.1 ∨ fz.2 = 0) ∧ l.length ≤ cap ∧ ∀ (j : Nat) u, (Sc.u8s l)[j]? = some u → W.cell? ⟨g, j, none⟩ = some u
theorem u8s_len (l : List Int) : (Sc.u8s l).length = l.length := by simp [Sc.u8s]
theorem MkV.form {W : World} {n0 : Nat} {v : Value} {l : List Int} (h : MkV W n0 v l) : ∃ g c, v = .slice (some ⟨g, 0, none⟩) l.length c := by
  obtain ⟨g, cap, cur, fz, rfl, -⟩ := h
  exact ⟨g, cap, rfl⟩
theorem MkV.rd {W : World} {n0 : Nat} {v : Value} {l : List Int} (h : MkV W n0 v l) : Rd W v (Sc.u8s l) := by
  obtain ⟨g, cap, cur, fz, rfl, -, -, -, -, hc, h6⟩ := h
  exact ⟨_, cap, by rw [u8s_len], by rw [u8s_len]; exact hc, .inr ⟨g, 0, rfl, fun k u hk => by rw [Nat.zero_add]; exact h6 k u hk⟩⟩
theorem MkV.lo {W : World} {n0 g : Nat} {v : Value} {l : List Int} (h : MkV W n0 v l) (hg : v.ownBlock = some g) : n0 ≤ g ∧ g < W.heap.size := by
  obtain ⟨g', cap, cur, fz, rfl, h1, h2, -⟩ := h
  simp [Value.ownBlock] at hg
  subst hg
  exact ⟨h1, (Array.getElem?_eq_some_iff.1 h2).1⟩
theorem MkV.ne {W : World} {n0 g b : Nat} {v : Value} {l : List Int} {c : Array Value} {e : TypeId} (h : MkV W n0 v l) (hg : v.ownBlock = some g) (hb : Blk W b c e) (he : 5 ≠ e) : b ≠ g := by
  obtain ⟨g', cap, cur, fz, rfl, h1, h2, -⟩ := h
  simp [Value.ownBlock] at hg
  subst hg
  rintro rfl
  have := h2.symm.trans hb
  simp at this
  exact he this.2.1
theorem MkV.fr {S : List Nat} {W W' : World} {n0 : Nat} {v : Value} {l : List Int} (h : MkV W n0 v l) (f : Fr S W W') (hs : ∀ g, v.ownBlock = some g → g ∉ S) : MkV W' n0 v l := by
  obtain ⟨g, cap, cur, fz, rfl, h1, h2, h3, h4, h5, h6⟩ := h
  have hb := f.block g (Array.getElem?_eq_some_iff.1 h2).1 (hs g rfl)
  exact ⟨g, cap, cur, fz, rfl, h1, hb.trans h2, h3, h4, h5, fun j u hu => (World.cell?_of_block hb).trans (h6 j u hu)⟩
/-- The numbers of a text's bytes. -/
def bytesI (s : ByteArray) : List Int := s.data.toList.map fun b => (b.toNat : Int)
theorem bytesI_len (s : ByteArray) : (bytesI s).length = s.size := by unfold bytesI; rw [List.length_map, Array.length_toList]; rfl
theorem bytesI_cells (s : ByteArray) : Sc.u8s (bytesI s) = Lib.strCells s := by unfold Sc.u8s bytesI Lib.strCells; rw [List.map_map]; rfl
theorem conv_bytes (w : World) (s : ByteArray) (n0 : Nat) (hn : n0 ≤ w.heap.size) : ∃ v w', (convert 9 42 (.string s)).run Tryd.prog w = .ok v w' ∧ MkV w' n0 v (bytesI s) ∧ Fr [] w w' ∧ v.ownBlock = some w.heap.size := by
  refine ⟨_, _, Lib.run_convert_string_bytes w 9 42 5 s Tryd.underlying9 Tryd.underlying42 Tryd.underlying5, ?_, ?_, rfl⟩
  · have hge := grownCap_ge w s.size 0 5
    have hsz : (Lib.bytesCells w 5 s).size = grownCap w s.size 0 5 := by
      unfold Lib.bytesCells
      rw [Array.size_append, Array.size_map, Array.size_replicate]
      have : s.data.size = s.size := rfl
      omega
    refine ⟨w.heap.size, _, _, _, by rw [bytesI_len], hn, Lib.bytesWorld_at_new w 5 s, hsz, .inl (by show _ ≤ (Lib.bytesCells w 5 s).size; omega), by rw [bytesI_len]; exact hge, fun j u hu => ?_⟩
    rw [bytesI_cells] at hu
    obtain ⟨hj, hu'⟩ := List.getElem?_eq_some_iff.1 hu
    rw [Lib.strCells_length] at hj
    rw [Lib.bytesWorld_cell w 5 s j hj, ← hu']
    simp [Lib.strCells, List.getD, hj]
  · exact ⟨rfl, rfl, rfl, by rw [Lib.bytesWorld_size]; omega, fun k hk _ => Lib.bytesWorld_at_old w 5 s k hk⟩
theorem Fr.setCs {S : List Nat} {a W : World} (h : Fr S a W) (g o : Nat) (vs : List Value) (hg : g ∈ S ∨ a.heap.size ≤ g) : Fr S a (W.setCells g o vs) := by
  induction vs generalizing W o with
  | nil => exact h
  | cons v vs ih => rw [World.setCells]; exact ih (h.setCell ⟨g, o, none⟩ v hg) (o + 1)
theorem setCells_row (g : Nat) (t : TypeId) (fz : Nat × Nat) : ∀ (vs : List Value) (o : Nat) (w : World) (cur : Array Value), w.heap[g]? = some (.cells cur t fz) → ∃ cur', (w.setCells g o vs).heap[g]? = some (.cells cur' t fz) ∧ cur'.size = cur.size
  | [], _, _, cur, h => ⟨cur, h, rfl⟩
  | v :: r, o, w, cur, h => by
    have h1 : (w.setCell ⟨g, o, none⟩ v).heap[g]? = some (.cells (cur.setIfInBounds o v) t fz) := by simp [World.setCell, Array.getElem?_modify, h]
    obtain ⟨cur', h2, h3⟩ := setCells_row g t fz r (o + 1) _ _ h1
    exact ⟨cur', h2, by rw [h3, Array.size_setIfInBounds]⟩
section
variable {w : World} {n0 : Nat} {v : Value} {l : List Int}
/-- What there is behind the elements may be written. -/
theorem MkV.room (h : MkV w n0 v l) (news : List Value) (g c : Nat) (hv : v = .slice (some ⟨g, 0, none⟩) l.length c) (hr : l.length + news.length ≤ c) (h1 : ∀ u ∈ news, u.oneCell' = true) :
    (storeCells ⟨g, 0 + l.length, none⟩ news 0).run Tryd.prog w = .ok () (w.setCells g (0 + l.length + 0) news) ∧ ∀ (ns : List Int), news = Sc.u8s ns → MkV (w.setCells g (0 + l.length + 0) news) n0 (.slice (some ⟨g, 0, none⟩) (l.length + news.length) c) (l ++ ns) := by
  obtain ⟨g', cap, cur, fz, he, h2, h3, h4, h5, h6, h7⟩ := h
  rw [hv] at he
  obtain ⟨hg, -, hcap⟩ := Value.slice.inj he
  simp at hg
  subst hg hcap
  have hthere : ∀ j, j < news.length → (w.cell? ⟨g, l.length + j, none⟩).isSome = true := fun j hj => by
    have : l.length + j < cur.size := by omega
    simp [World.cell?, h3, this]
  refine ⟨run_storeCells_cells (P := Tryd.prog) g (0 + l.length) news 0 w (fun j hj => ?_) (fun j hj => ?_) h1, ?_⟩
  · rw [Nat.zero_add, Nat.add_zero]; exact hthere j hj
  · obtain ⟨lo, hi⟩ := fz
    simp only [World.frozen?, h3, Bool.and_eq_false_iff, decide_eq_false_iff_not]
    rcases h5 with h5 | h5
    · left; simp only at h5; omega
    · right; simp only at h5; omega
  · rintro ns rfl
    rw [Nat.zero_add, Nat.add_zero]
    obtain ⟨cur', q1, q2⟩ := setCells_row g 5 fz (Sc.u8s ns) l.length w cur h3
    refine ⟨g, c, cur', fz, by rw [List.length_append, u8s_len], h2, q1, by omega, h5, by rw [List.length_append, ← u8s_len ns]; exact hr, fun j u hu => ?_⟩
    have hu' : (Sc.u8s l ++ Sc.u8s ns)[j]? = some u := by rw [← hu]; simp [Sc.u8s]
    by_cases hj : j < l.length
    · rw [List.getElem?_append_left (by rw [u8s_len]; exact hj)] at hu'
      rw [World.cell?_setCells_out g _ _ _ _ (fun _ _ => .inl hj)]
      exact h7 j u hu'
    · rw [List.getElem?_append_right (by rw [u8s_len]; omega), u8s_len] at hu'
      obtain ⟨hk, hku⟩ := List.getElem?_eq_some_iff.1 hu'
      have := World.cell?_setCells_in g (Sc.u8s ns) l.length w hthere (j - l.length) hk
      rw [show l.length + (j - l.length) = j by omega, hku] at this
      exact this
theorem MkV.fresh (h : MkV w n0 v l) (hn : n0 ≤ w.heap.size) (ns : List Int) (k : Nat) (hk : l.length + ns.length ≤ k) (zs : Array Value) (hz : zs.size = k - (l.length + ns.length)) :
    MkV (w.drew.alloc (.cells ((Sc.u8s l).toArray ++ (Sc.u8s ns).toArray ++ zs) 5)) n0 (.slice (some ⟨w.heap.size, 0, none⟩) (l.length + ns.length) k) (l ++ ns) := by
  refine ⟨w.heap.size, k, _, (0, 0), by rw [List.length_append], hn, heap_alloc_new w.drew _, ?_, .inr rfl, by rw [List.length_append]; exact hk, fun j u hu => ?_⟩
  · simp only [Array.size_append, List.size_toArray, u8s_len]; omega
  · have hu' : (Sc.u8s l ++ Sc.u8s ns)[j]? = some u := by rw [← hu]; simp [Sc.u8s]
    have hj : j < (Sc.u8s l ++ Sc.u8s ns).length := (List.getElem?_eq_some_iff.1 hu').1
    have e : ((w.drew.alloc (.cells ((Sc.u8s l).toArray ++ (Sc.u8s ns).toArray ++ zs) 5)).heap[w.heap.size]?) = some (.cells ((Sc.u8s l).toArray ++ (Sc.u8s ns).toArray ++ zs) 5 (0, 0)) := heap_alloc_new w.drew _
    simp only [World.cell?, e]
    rw [Array.getElem?_append_left (by simpa using hj)]
    simpa using hu'
end
theorem u8s_one (ns : List Int) : ∀ u ∈ Sc.u8s ns, u.oneCell' = true := fun u hu => by
  obtain ⟨z, _, rfl⟩ := List.mem_map.1 hu
  rfl
section
variable {w : World} {n0 : Nat} {v : Value} {l : List Int}
/-- append of the elements of a slice. -/
theorem MkV.app (h : MkV w n0 v l) (hn : n0 ≤ w.heap.size) (ty : TypeId) (ad : Addr) (ns : List Int) (c' : Nat) (hc : ∀ j u, (Sc.u8s ns)[j]? = some u → w.cell? (ad.add j) = some u) (hb : l.length + ns.length ≤ 4294967296) :
    ∃ v' w', (Builtin.append_ #[42, 42] ty #[v, .slice (some ad) ns.length c']).run Tryd.prog w = .ok v' w' ∧ MkV w' n0 v' (l ++ ns) ∧ Fr v.ownBlock.toList w w' := by
  obtain ⟨i, hi, hz, hsz, hby⟩ := info_parts Sc.infoU8
  obtain ⟨g, c, rfl⟩ := h.form
  by_cases hr : l.length + ns.length ≤ c
  · obtain ⟨h1, h2⟩ := h.room (Sc.u8s ns) g c rfl (by rw [u8s_len]; exact hr) (u8s_one ns)
    have hf := run_firstCells_some (P := Tryd.prog) w 1 ns.length ad ns.length c' (Sc.u8s ns) (by rw [u8s_len, Nat.mul_one]) hc
    have h3 := h2 ns rfl
    rw [u8s_len] at h3
    refine ⟨_, _, ?_, h3, (Fr.refl _ w).setCs _ _ _ (.inl (by simp [Value.ownBlock]))⟩
    simp only [Nat.zero_add, Nat.add_zero] at h1 ⊢
    simp [Builtin.append_, run_underlying Tryd.underlying42, sizeOf, typeInfo, hi, hsz, Builtin.lenOf, hr, hf, Addr.add_lit, h1]
  · have hold : ∀ j u, (Sc.u8s l)[j]? = some u → w.cell? ((⟨g, 0, none⟩ : Addr).add j) = some u := fun j u hu => by
      obtain ⟨g', cap, cur, fz, he, _, _, _, _, _, h7⟩ := h
      obtain ⟨hg, -, -⟩ := Value.slice.inj he
      simp at hg
      subst hg
      rw [Addr.add_lit, Nat.zero_add]
      exact h7 j u hu
    have hrun := run_append_grow (P := Tryd.prog) w 42 ty 5 i (.int .u8 0) Tryd.underlying42 hi hz ⟨g, 0, none⟩ l.length c (Sc.u8s l) (by rw [u8s_len, hsz, Nat.mul_one]) hold ad ns.length c' (Sc.u8s ns) (by rw [u8s_len, hsz, Nat.mul_one]) hc (by omega) (by omega) (growslice_fits (by omega) (by rw [hby]; omega))
    refine ⟨_, _, hrun, h.fresh hn ns _ (grownCap_ge _ _ _ _) _ ?_, ((Fr.refl _ w).drew).alloc _⟩
    rw [size_zeroCells]
    show _ * 1 = _
    rw [Nat.mul_one]
/-- append of a text. -/
theorem MkV.appS (h : MkV w n0 v l) (hn : n0 ≤ w.heap.size) (ty : TypeId) (s : ByteArray) (hb : l.length + s.size ≤ 4294967296) :
    ∃ v' w', (Builtin.append_ #[42, 9] ty #[v, .string s]).run Tryd.prog w = .ok v' w' ∧ MkV w' n0 v' (l ++ bytesI s) ∧ Fr v.ownBlock.toList w w' := by
  obtain ⟨i, hi, hz, hsz, hby⟩ := info_parts Sc.infoU8
  obtain ⟨g, c, rfl⟩ := h.form
  by_cases hr : l.length + s.size ≤ c
  · obtain ⟨h1, h2⟩ := h.room (Lib.strCells s) g c rfl (by rw [Lib.strCells_length]; exact hr) (Lib.strCells_oneCell s)
    have hf := Lib.run_firstCells_string (P := Tryd.prog) w 1 s
    have h3 := h2 (bytesI s) (bytesI_cells s).symm
    rw [Lib.strCells_length] at h3
    refine ⟨_, _, ?_, h3, (Fr.refl _ w).setCs _ _ _ (.inl (by simp [Value.ownBlock]))⟩
    simp only [Nat.zero_add, Nat.add_zero] at h1 ⊢
    simp [Builtin.append_, run_underlying Tryd.underlying42, run_underlying Tryd.underlying9, sizeOf, typeInfo, hi, hsz, Builtin.lenOf, hr, hf, Addr.add_lit, h1]
  · have hold : ∀ j u, (Sc.u8s l)[j]? = some u → w.cell? ((⟨g, 0, none⟩ : Addr).add j) = some u := fun j u hu => by
      obtain ⟨g', cap, cur, fz, he, _, _, _, _, _, h7⟩ := h
      obtain ⟨hg, -, -⟩ := Value.slice.inj he
      simp at hg
      subst hg
      rw [Addr.add_lit, Nat.zero_add]
      exact h7 j u hu
    have hrun := Lib.run_append_grow_string (P := Tryd.prog) w 42 9 ty 5 i (.int .u8 0) Tryd.underlying42 Tryd.underlying9 hi hz ⟨g, 0, none⟩ l.length c (Sc.u8s l) (by rw [u8s_len, hsz, Nat.mul_one]) hold s (by omega) (by omega) (growslice_fits (by omega) (by rw [hby]; omega))
    have hfr := h.fresh hn (bytesI s) (grownCap w (l.length + s.size) c 5) (by rw [bytesI_len]; exact grownCap_ge _ _ _ _) (Builtin.zeroCells (Value.int .u8 0).cells (grownCap w (l.length + s.size) c 5 - (l.length + s.size))) (by rw [size_zeroCells, bytesI_len]; show _ * 1 = _; rw [Nat.mul_one])
    rw [bytesI_cells, bytesI_len] at hfr
    exact ⟨_, _, hrun, hfr, ((Fr.refl _ w).drew).alloc _⟩
theorem wpList_appM (h : MkV w n0 v l) (hn : n0 ≤ w.heap.size) {ops : Array Oper} {rest : List Oper} {o : Oper} {a : Act} {Q : Exit → Act → World → Prop}
    (hg : o.guard = none) (s x : Operand) (hop : o.op = Op.call { callee := Callee.builtin Builtin.append, args := #[s, x], argTypes := #[42, 42] }) (hs : a.eval s = v) (ad : Addr) (m c : Nat) (ns : List Int) (hx : a.eval x = .slice (some ad) m c) (hm : ns.length = m)
    (hc : ∀ j u, (Sc.u8s ns)[j]? = some u → w.cell? (ad.add j) = some u) (hb : l.length + m ≤ 4294967296)
    (hK : ∀ v' w', MkV w' n0 v' (l ++ ns) → Fr v.ownBlock.toList w w' → wpList Tryd.prog ops Q rest (a.put o.dst v') w') :
    wpList Tryd.prog ops Q (o :: rest) a w := by
  subst hm
  refine wpList_plain hg fun K hK' => ?_
  obtain ⟨v', w', hrun, r1, r2⟩ := h.app hn o.type ad ns c hc hb
  unfold Oper.wp execOp
  simp only [hop, resolve, invoke, builtin, Sem.run_bind, Sem.run_pure, Result.andThen_ok, List.map_toArray, List.map_cons, List.map_nil, hs, hx, hrun]
  exact hK' _ _ (hK v' w' r1 r2)
theorem wpList_appS (h : MkV w n0 v l) (hn : n0 ≤ w.heap.size) {ops : Array Oper} {rest : List Oper} {o : Oper} {a : Act} {Q : Exit → Act → World → Prop}
    (hg : o.guard = none) (s x : Operand) (hop : o.op = Op.call { callee := Callee.builtin Builtin.append, args := #[s, x], argTypes := #[42, 9] }) (hs : a.eval s = v) (t : ByteArray) (hx : a.eval x = .string t) (hb : l.length + t.size ≤ 4294967296)
    (hK : ∀ v' w', MkV w' n0 v' (l ++ bytesI t) → Fr v.ownBlock.toList w w' → wpList Tryd.prog ops Q rest (a.put o.dst v') w') :
    wpList Tryd.prog ops Q (o :: rest) a w := by
  refine wpList_plain hg fun K hK' => ?_
  obtain ⟨v', w', hrun, r1, r2⟩ := h.appS hn o.type t hb
  unfold Oper.wp execOp
  simp only [hop, resolve, invoke, builtin, Sem.run_bind, Sem.run_pure, Result.andThen_ok, List.map_toArray, List.map_cons, List.map_nil, hs, hx, hrun]
  exact hK' _ _ (hK v' w' r1 r2)
end
end Go.Proofs.YtbpgpjibljgiiaaDoor
namespace Go.Proofs.YtbpgpjibljgiiaaDoor
open Go.RowKit
set_option linter.unusedVariables false
set_option linter.unusedSimpArgs false
attribute [local go_sem] Oper.semAt_some
namespace Sc
theorem strOfNums_bytesI (s : ByteArray) : strOfNums (bytesI s) = s := by
  apply ByteArray.ext
  apply Array.toList_inj.1
  show ((bytesI s).map fun n => UInt8.ofNat n.toNat) = _
  unfold bytesI
  rw [List.map_map]
  refine (List.map_congr_left (g := id) fun b _ => ?_).trans (List.map_id _)
  show UInt8.ofNat ((b.toNat : Int)).toNat = b
  simp
theorem strOfNums_list (l : List Int) : (strOfNums l).data.toList = l.map fun n => UInt8.ofNat n.toNat := rfl
theorem strOfNums_app (a b : List Int) : (strOfNums (a ++ b)).data.toList = (strOfNums a).data.toList ++ (strOfNums b).data.toList := by
  rw [strOfNums_list, strOfNums_list, strOfNums_list, List.map_append]
theorem lineT_of {s : St} {B : ByteArray} (h : 1 ≤ s.kd ∧ s.kd ≤ 10) (hb : B.data.toList = (wrdB s.kd).1.data.toList ++ Lib.joinTail [32] ((tailL s).map (·.data.toList))) : lineT s = B := by
  apply ByteArray.ext
  apply Array.toList_inj.1
  rw [lineT_list h, hb]
theorem wrd_nn {k : Nat} (h : 5 ≤ k ∧ k ≤ 10) : (wrdB k).2 = ⟨#[78, 78]⟩ := by
  have hc : k = 5 ∨ k = 6 ∨ k = 7 ∨ k = 8 ∨ k = 9 ∨ k = 10 := by omega
  rcases hc with rfl | rfl | rfl | rfl | rfl | rfl <;> rfl
set_option maxRecDepth 100000 in
set_option maxHeartbeats 8000000 in
theorem rline_turn (w : World) (s : St) (p : Option Addr) (c : Nat) (hi : StI s) (h : mayS s = true) (hrd : Rd w (.slice p s.by'.length c) (u8s s.by')) (hk : s.kd = 3) :
    Calls Tryd.prog 12 #[s.val (.slice p s.by'.length c)] w fun e w' => e = .returned (.tuple #[.string (lineT s), .int .i64 0]) ∧ Fr [] w w' := by
  obtain ⟨T, hT⟩ : ∃ T, T = lineT s := ⟨_, rfl⟩
  have HT := Lib.hid hT
  rw [← hT]
  obtain ⟨W, hW⟩ : ∃ W, W = (wrdB s.kd).1 := ⟨_, rfl⟩
  obtain ⟨L, hL⟩ : ∃ L, L = (wrdB s.kd).2 := ⟨_, rfl⟩
  have HM := Lib.hid (fun W (f : Fr [] w W) => mayR_any W s (.slice p s.by'.length c) (hrd.grow f) hi.2.2.2.2)
  rw [h] at HM
  have HWD := Lib.hid (fun w => word_any w s.kd)
  rw [← hW, ← hL] at HWD
  have HWS := Lib.hid (show W.size ≤ 10 by rw [hW]; exact wrd_size _)
  have HS := Lib.hid (And.intro hi h)
  have HW := Lib.hid hW
  have hLK : L = ⟨#[]⟩ := by rw [hL]; rw [hk]; rfl
  obtain ⟨kd, la, sl, pl, by'⟩ := s
  obtain rfl : kd = 3 := hk
  have HRD := Lib.hid (show Rd w (.slice p by'.length c) (u8s by') from hrd)
  replace HM := Lib.hid (fun w' (f : Fr [] w w') => show Calls Tryd.prog 36 #[.agg #[.int .u8 3, .int .i64 la, .int .i64 sl, .int .i64 pl, .slice p by'.length c]] w' fun e w2 => e = .returned (.bool true) ∧ Fr [] w' w2 from HM.out w' f)
  replace HWD := Lib.hid (fun w => show Calls Tryd.prog 37 #[.int .u8 3] w _ from HWD.out w)
  show Calls Tryd.prog 12 #[.agg #[.int .u8 3, .int .i64 la, .int .i64 sl, .int .i64 pl, .slice p by'.length c]] w _
  obtain ⟨n, hn⟩ : ∃ n, n = by'.length := ⟨_, rfl⟩
  rw [← hn] at HM ⊢
  have HNB := Lib.hid hn
  have hLL : L = ⟨#[]⟩ := hLK
  have e66 : (L.toList == [66]) = false := by rw [show ([66] : List UInt8) = (⟨#[66]⟩ : ByteArray).toList by kernel_rfl]; exact beq_not (by rw [hLL]; exact fun q => absurd (congrArg ByteArray.size q) (by decide))
  have e78 : (L.toList == [78]) = false := by rw [show ([78] : List UInt8) = (⟨#[78]⟩ : ByteArray).toList by kernel_rfl]; exact beq_not (by rw [hLL]; exact fun q => absurd (congrArg ByteArray.size q) (by decide))
  have e7878 : (L.toList == [78, 78]) = false := by rw [show ([78, 78] : List UInt8) = (⟨#[78, 78]⟩ : ByteArray).toList by kernel_rfl]; exact beq_not (by rw [hLL]; exact fun q => absurd (congrArg ByteArray.size q) (by decide))
  clear hLL hLK
  clear hT hW hL hi h hn hrd
  obtain ⟨bx, hbx⟩ : ∃ bx, bx = w.heap.size := ⟨_, rfl⟩
  obtain ⟨w1, hw1⟩ : ∃ w1, w.alloc (.cells #[.int .u8 3, .int .i64 la, .int .i64 sl, .int .i64 pl, .slice p n c] 44) = w1 := ⟨_, rfl⟩
  have hb : Blk w1 bx #[.int .u8 3, .int .i64 la, .int .i64 sl, .int .i64 pl, .slice p n c] 44 := by rw [← hw1]; exact Blk.new_at hbx _ _
  have q1 := hb.st
  have H1 := Lib.hid (And.intro hb (show Fr [] w w1 by rw [← hw1]; exact (Fr.refl _ _).alloc _))
  have HW1 := Lib.hid hw1
  have HBX := Lib.hid hbx
  clear hb hbx hw1
  go_enter Tryd.func12, Tryd.ntmps12
  go_upto_region 1 with fail
  rw [HW1.out, ← HBX.out]
  go_wp2_with fail
  (with_reducible refine (HM.out _ H1.out.2).mono ?_)
  rintro e w2 ⟨rfl, f2⟩
  have H2 := Lib.hid (show Blk w2 bx _ 44 ∧ Fr [] w w2 from ⟨f2.blk H1.out.1 (by simp), H1.out.2.trans f2 (by simp)⟩)
  have c0 := H2.out.1.at 0 (v := .int .u8 3) rfl
  clear f2 q1
  go_wp2_with fail
  (with_reducible refine (HWD.out _).mono ?_)
  rintro e wz ⟨rfl, hwz⟩
  rw [hwz]
  clear hwz c0
  obtain ⟨v3, w3, cv3, hm3, f3, hob3⟩ := conv_bytes w2 W w.heap.size H2.out.2.size
  obtain ⟨g3, c3, rfl⟩ := hm3.form
  have H3 := Lib.hid (show Blk w3 bx _ 44 ∧ Fr [] w w3 ∧ MkV w3 w.heap.size (.slice (some ⟨g3, 0, none⟩) (bytesI W).length c3) (bytesI W) from ⟨f3.blk H2.out.1 (by simp), H2.out.2.trans f3 (by simp), hm3⟩)
  obtain ⟨N3, hN3⟩ : ∃ N, N = (bytesI W).length := ⟨_, rfl⟩
  have HN3 := Lib.hid (show N3 = (bytesI W).length ∧ N3 ≤ 10 from ⟨hN3, by rw [hN3, bytesI_len]; exact HWS.out⟩)
  rw [← hN3] at cv3
  clear hm3 f3 hob3 hN3
  have HTS := Lib.hid (show T.size ≤ 60 from by rw [HT.out]; exact lineT_small (may_kind HS.out.2) (by show (3 : Nat) ≠ 1; decide) HS.out.1)
  have HRT := Lib.hid (show strOfNums (bytesI W) = T from by
    rw [HT.out, strOfNums_bytesI]
    refine (lineT_of (may_kind HS.out.2) ?_).symm
    rw [show tailL _ = [] from rfl, HW.out]
    simp [joinTail_nil])
  have k10 : ((N3 : Nat) : Int) ≤ 4194304 := by have := HN3.out.2; omega
  go_upto_region 16 with fail
  have HSZ := Lib.hid (show (bytesI W).length = T.size from by rw [← HRT.out, strOfNums_size])
  have cvv : (convert 42 9 (.slice (some ⟨g3, 0, none⟩) N3 c3)).run Tryd.prog w3 = .ok (.string T) w3 := by
    have := conv_rd _ _ _ (show MkV w3 w.heap.size (.slice (some ⟨g3, 0, none⟩) N3 c3) (bytesI W) by rw [HN3.out.1]; exact H3.out.2.2).rd
    rw [HRT.out] at this
    exact this
  have H9 := Lib.hid H3.out.2.1
  have k9 : ((N3 : Nat) : Int) ≤ 4194304 := by have := HN3.out.2; omega
  go_wp2
  go_ret2
  exact ⟨rfl, H9.out⟩
set_option maxRecDepth 100000 in
set_option maxHeartbeats 8000000 in
theorem rline_tick (w : World) (s : St) (p : Option Addr) (c : Nat) (hi : StI s) (h : mayS s = true) (hrd : Rd w (.slice p s.by'.length c) (u8s s.by')) (hk : s.kd = 4) :
    Calls Tryd.prog 12 #[s.val (.slice p s.by'.length c)] w fun e w' => e = .returned (.tuple #[.string (lineT s), .int .i64 0]) ∧ Fr [] w w' := by
  obtain ⟨T, hT⟩ : ∃ T, T = lineT s := ⟨_, rfl⟩
  have HT := Lib.hid hT
  rw [← hT]
  obtain ⟨W, hW⟩ : ∃ W, W = (wrdB s.kd).1 := ⟨_, rfl⟩
  obtain ⟨L, hL⟩ : ∃ L, L = (wrdB s.kd).2 := ⟨_, rfl⟩
  have HM := Lib.hid (fun W (f : Fr [] w W) => mayR_any W s (.slice p s.by'.length c) (hrd.grow f) hi.2.2.2.2)
  rw [h] at HM
  have HWD := Lib.hid (fun w => word_any w s.kd)
  rw [← hW, ← hL] at HWD
  have HWS := Lib.hid (show W.size ≤ 10 by rw [hW]; exact wrd_size _)
  have HS := Lib.hid (And.intro hi h)
  have HW := Lib.hid hW
  have hLK : L = ⟨#[]⟩ := by rw [hL]; rw [hk]; rfl
  obtain ⟨kd, la, sl, pl, by'⟩ := s
  obtain rfl : kd = 4 := hk
  have HRD := Lib.hid (show Rd w (.slice p by'.length c) (u8s by') from hrd)
  replace HM := Lib.hid (fun w' (f : Fr [] w w') => show Calls Tryd.prog 36 #[.agg #[.int .u8 4, .int .i64 la, .int .i64 sl, .int .i64 pl, .slice p by'.length c]] w' fun e w2 => e = .returned (.bool true) ∧ Fr [] w' w2 from HM.out w' f)
  replace HWD := Lib.hid (fun w => show Calls Tryd.prog 37 #[.int .u8 4] w _ from HWD.out w)
  show Calls Tryd.prog 12 #[.agg #[.int .u8 4, .int .i64 la, .int .i64 sl, .int .i64 pl, .slice p by'.length c]] w _
  obtain ⟨n, hn⟩ : ∃ n, n = by'.length := ⟨_, rfl⟩
  rw [← hn] at HM ⊢
  have HNB := Lib.hid hn
  have hLL : L = ⟨#[]⟩ := hLK
  have e66 : (L.toList == [66]) = false := by rw [show ([66] : List UInt8) = (⟨#[66]⟩ : ByteArray).toList by kernel_rfl]; exact beq_not (by rw [hLL]; exact fun q => absurd (congrArg ByteArray.size q) (by decide))
  have e78 : (L.toList == [78]) = false := by rw [show ([78] : List UInt8) = (⟨#[78]⟩ : ByteArray).toList by kernel_rfl]; exact beq_not (by rw [hLL]; exact fun q => absurd (congrArg ByteArray.size q) (by decide))
  have e7878 : (L.toList == [78, 78]) = false := by rw [show ([78, 78] : List UInt8) = (⟨#[78, 78]⟩ : ByteArray).toList by kernel_rfl]; exact beq_not (by rw [hLL]; exact fun q => absurd (congrArg ByteArray.size q) (by decide))
  clear hLL hLK
  clear hT hW hL hi h hn hrd
  obtain ⟨bx, hbx⟩ : ∃ bx, bx = w.heap.size := ⟨_, rfl⟩
  obtain ⟨w1, hw1⟩ : ∃ w1, w.alloc (.cells #[.int .u8 4, .int .i64 la, .int .i64 sl, .int .i64 pl, .slice p n c] 44) = w1 := ⟨_, rfl⟩
  have hb : Blk w1 bx #[.int .u8 4, .int .i64 la, .int .i64 sl, .int .i64 pl, .slice p n c] 44 := by rw [← hw1]; exact Blk.new_at hbx _ _
  have q1 := hb.st
  have H1 := Lib.hid (And.intro hb (show Fr [] w w1 by rw [← hw1]; exact (Fr.refl _ _).alloc _))
  have HW1 := Lib.hid hw1
  have HBX := Lib.hid hbx
  clear hb hbx hw1
  go_enter Tryd.func12, Tryd.ntmps12
  go_upto_region 1 with fail
  rw [HW1.out, ← HBX.out]
  go_wp2_with fail
  (with_reducible refine (HM.out _ H1.out.2).mono ?_)
  rintro e w2 ⟨rfl, f2⟩
  have H2 := Lib.hid (show Blk w2 bx _ 44 ∧ Fr [] w w2 from ⟨f2.blk H1.out.1 (by simp), H1.out.2.trans f2 (by simp)⟩)
  have c0 := H2.out.1.at 0 (v := .int .u8 4) rfl
  clear f2 q1
  go_wp2_with fail
  (with_reducible refine (HWD.out _).mono ?_)
  rintro e wz ⟨rfl, hwz⟩
  rw [hwz]
  clear hwz c0
  obtain ⟨v3, w3, cv3, hm3, f3, hob3⟩ := conv_bytes w2 W w.heap.size H2.out.2.size
  obtain ⟨g3, c3, rfl⟩ := hm3.form
  have H3 := Lib.hid (show Blk w3 bx _ 44 ∧ Fr [] w w3 ∧ MkV w3 w.heap.size (.slice (some ⟨g3, 0, none⟩) (bytesI W).length c3) (bytesI W) from ⟨f3.blk H2.out.1 (by simp), H2.out.2.trans f3 (by simp), hm3⟩)
  obtain ⟨N3, hN3⟩ : ∃ N, N = (bytesI W).length := ⟨_, rfl⟩
  have HN3 := Lib.hid (show N3 = (bytesI W).length ∧ N3 ≤ 10 from ⟨hN3, by rw [hN3, bytesI_len]; exact HWS.out⟩)
  rw [← hN3] at cv3
  clear hm3 f3 hob3 hN3
  have HTS := Lib.hid (show T.size ≤ 60 from by rw [HT.out]; exact lineT_small (may_kind HS.out.2) (by show (4 : Nat) ≠ 1; decide) HS.out.1)
  have HRT := Lib.hid (show strOfNums (bytesI W) = T from by
    rw [HT.out, strOfNums_bytesI]
    refine (lineT_of (may_kind HS.out.2) ?_).symm
    rw [show tailL _ = [] from rfl, HW.out]
    simp [joinTail_nil])
  have k10 : ((N3 : Nat) : Int) ≤ 4194304 := by have := HN3.out.2; omega
  go_upto_region 16 with fail
  have HSZ := Lib.hid (show (bytesI W).length = T.size from by rw [← HRT.out, strOfNums_size])
  have cvv : (convert 42 9 (.slice (some ⟨g3, 0, none⟩) N3 c3)).run Tryd.prog w3 = .ok (.string T) w3 := by
    have := conv_rd _ _ _ (show MkV w3 w.heap.size (.slice (some ⟨g3, 0, none⟩) N3 c3) (bytesI W) by rw [HN3.out.1]; exact H3.out.2.2).rd
    rw [HRT.out] at this
    exact this
  have H9 := Lib.hid H3.out.2.1
  have k9 : ((N3 : Nat) : Int) ≤ 4194304 := by have := HN3.out.2; omega
  go_wp2
  go_ret2
  exact ⟨rfl, H9.out⟩
set_option maxRecDepth 100000 in
set_option maxHeartbeats 8000000 in
theorem rline_lane (w : World) (s : St) (p : Option Addr) (c : Nat) (hi : StI s) (h : mayS s = true) (hrd : Rd w (.slice p s.by'.length c) (u8s s.by')) (hk : s.kd = 2) :
    Calls Tryd.prog 12 #[s.val (.slice p s.by'.length c)] w fun e w' => e = .returned (.tuple #[.string (lineT s), .int .i64 0]) ∧ Fr [] w w' := by
  obtain ⟨T, hT⟩ : ∃ T, T = lineT s := ⟨_, rfl⟩
  have HT := Lib.hid hT
  rw [← hT]
  obtain ⟨W, hW⟩ : ∃ W, W = (wrdB s.kd).1 := ⟨_, rfl⟩
  obtain ⟨L, hL⟩ : ∃ L, L = (wrdB s.kd).2 := ⟨_, rfl⟩
  have HM := Lib.hid (fun W (f : Fr [] w W) => mayR_any W s (.slice p s.by'.length c) (hrd.grow f) hi.2.2.2.2)
  rw [h] at HM
  have HWD := Lib.hid (fun w => word_any w s.kd)
  rw [← hW, ← hL] at HWD
  have HWS := Lib.hid (show W.size ≤ 10 by rw [hW]; exact wrd_size _)
  have HS := Lib.hid (And.intro hi h)
  have HW := Lib.hid hW
  have hLK : L = ⟨#[78]⟩ := by rw [hL]; rw [hk]; rfl
  obtain ⟨kd, la, sl, pl, by'⟩ := s
  obtain rfl : kd = 2 := hk
  have HRD := Lib.hid (show Rd w (.slice p by'.length c) (u8s by') from hrd)
  replace HM := Lib.hid (fun w' (f : Fr [] w w') => show Calls Tryd.prog 36 #[.agg #[.int .u8 2, .int .i64 la, .int .i64 sl, .int .i64 pl, .slice p by'.length c]] w' fun e w2 => e = .returned (.bool true) ∧ Fr [] w' w2 from HM.out w' f)
  replace HWD := Lib.hid (fun w => show Calls Tryd.prog 37 #[.int .u8 2] w _ from HWD.out w)
  show Calls Tryd.prog 12 #[.agg #[.int .u8 2, .int .i64 la, .int .i64 sl, .int .i64 pl, .slice p by'.length c]] w _
  obtain ⟨n, hn⟩ : ∃ n, n = by'.length := ⟨_, rfl⟩
  rw [← hn] at HM ⊢
  have HNB := Lib.hid hn
  have hLL : L = ⟨#[78]⟩ := hLK
  have e66 : (L.toList == [66]) = false := by rw [show ([66] : List UInt8) = (⟨#[66]⟩ : ByteArray).toList by kernel_rfl]; exact beq_not (by rw [hLL]; exact fun q => absurd (congrArg ByteArray.toList q) (by decide +kernel))
  have e78 : (L.toList == [78]) = true := by rw [show ([78] : List UInt8) = (⟨#[78]⟩ : ByteArray).toList by kernel_rfl]; exact beq_is hLL
  clear hLL hLK
  clear hT hW hL hi h hn hrd
  obtain ⟨bx, hbx⟩ : ∃ bx, bx = w.heap.size := ⟨_, rfl⟩
  obtain ⟨w1, hw1⟩ : ∃ w1, w.alloc (.cells #[.int .u8 2, .int .i64 la, .int .i64 sl, .int .i64 pl, .slice p n c] 44) = w1 := ⟨_, rfl⟩
  have hb : Blk w1 bx #[.int .u8 2, .int .i64 la, .int .i64 sl, .int .i64 pl, .slice p n c] 44 := by rw [← hw1]; exact Blk.new_at hbx _ _
  have q1 := hb.st
  have H1 := Lib.hid (And.intro hb (show Fr [] w w1 by rw [← hw1]; exact (Fr.refl _ _).alloc _))
  have HW1 := Lib.hid hw1
  have HBX := Lib.hid hbx
  clear hb hbx hw1
  go_enter Tryd.func12, Tryd.ntmps12
  go_upto_region 1 with fail
  rw [HW1.out, ← HBX.out]
  go_wp2_with fail
  (with_reducible refine (HM.out _ H1.out.2).mono ?_)
  rintro e w2 ⟨rfl, f2⟩
  have H2 := Lib.hid (show Blk w2 bx _ 44 ∧ Fr [] w w2 from ⟨f2.blk H1.out.1 (by simp), H1.out.2.trans f2 (by simp)⟩)
  have c0 := H2.out.1.at 0 (v := .int .u8 2) rfl
  clear f2 q1
  go_wp2_with fail
  (with_reducible refine (HWD.out _).mono ?_)
  rintro e wz ⟨rfl, hwz⟩
  rw [hwz]
  clear hwz c0
  obtain ⟨v3, w3, cv3, hm3, f3, hob3⟩ := conv_bytes w2 W w.heap.size H2.out.2.size
  obtain ⟨g3, c3, rfl⟩ := hm3.form
  have H3 := Lib.hid (show Blk w3 bx _ 44 ∧ Fr [] w w3 ∧ MkV w3 w.heap.size (.slice (some ⟨g3, 0, none⟩) (bytesI W).length c3) (bytesI W) from ⟨f3.blk H2.out.1 (by simp), H2.out.2.trans f3 (by simp), hm3⟩)
  obtain ⟨N3, hN3⟩ : ∃ N, N = (bytesI W).length := ⟨_, rfl⟩
  have HN3 := Lib.hid (show N3 = (bytesI W).length ∧ N3 ≤ 10 from ⟨hN3, by rw [hN3, bytesI_len]; exact HWS.out⟩)
  rw [← hN3] at cv3
  clear hm3 f3 hob3 hN3
  have HTS := Lib.hid (show T.size ≤ 60 from by rw [HT.out]; exact lineT_small (may_kind HS.out.2) (by show (2 : Nat) ≠ 1; decide) HS.out.1)
  have HIT := Lib.hid (fun W => numR_any W la HS.out.1.2.1.1 HS.out.1.2.1.2)
  obtain ⟨X, hX⟩ : ∃ X, X = numT la := ⟨_, rfl⟩
  have HXS := Lib.hid (show X.size ≤ 20 by rw [hX]; exact numT_short la HS.out.1.2.1.1 HS.out.1.2.1.2)
  rw [← hX] at HIT
  obtain ⟨X2, hX2⟩ : ∃ X2, X2 = (⟨#[32]⟩ : ByteArray) ++ X := ⟨_, rfl⟩
  have HTL := Lib.hid (show X2.size ≤ 21 by rw [hX2, ByteArray.size_append, show (⟨#[32]⟩ : ByteArray).size = 1 from rfl]; have := HXS.out; omega)
  obtain ⟨D, hD⟩ : ∃ D, D = bytesI W ++ bytesI X2 := ⟨_, rfl⟩
  have HRT := Lib.hid (show strOfNums D = T from by
    rw [HT.out, hD, hX2, hX]
    refine (lineT_of (may_kind HS.out.2) ?_).symm
    rw [strOfNums_app, strOfNums_bytesI, strOfNums_bytesI, HW.out, show tailL _ = [numT la] from rfl]
    simp [joinTail_nil, joinTail_cons])
  obtain ⟨N4, hN4⟩ : ∃ N4, D.length = N4 := ⟨_, rfl⟩
  have HD4 := Lib.hid (show (bytesI W ++ bytesI X2).length = N4 by rw [← hD]; exact hN4)
  have HDD := Lib.hid hD
  have HX2 := Lib.hid hX2
  have hcat : (⟨#[32]⟩ : ByteArray) ++ X = X2 := hX2.symm
  have hcs : 1 + X.size ≤ 9223372036854775807 := by have := HXS.out; omega
  have c1 := H3.out.1.at 1 (v := .int .i64 la) rfl
  clear hX hX2 hD hN4
  go_wp2_with fail
  (with_reducible refine (HIT.out _).mono ?_)
  rintro e w5 ⟨rfl, f5⟩
  have HF5 := Lib.hid (And.intro f5 (H3.out.2.1.trans f5 (by simp)))
  have HA4 := Lib.hid (show MkV w5 w.heap.size (.slice (some ⟨g3, 0, none⟩) N3 c3) (bytesI W) by rw [HN3.out.1]; exact H3.out.2.2.fr f5 (by simp))
  have HN4 := Lib.hid HF5.out.2.size
  clear f5 c1
  go_upto_region 16 with (at_builtin; go_must (refine wpList_appS HA4.out HN4.out rfl _ _ rfl rfl X2 rfl (by have h1 := HN3.out; have := HTL.out; rw [← h1.1]; omega) ?_); intro v4 w4 hm4 f4; obtain ⟨g4, c4, rfl⟩ := hm4.form; have H4 := Lib.hid (And.intro hm4 f4); clear hm4 f4; rw [HD4.out])
  have HM4 := Lib.hid (show MkV w4 w.heap.size (.slice (some ⟨g4, 0, none⟩) N4 c4) D by rw [← HD4.out, HDD.out]; exact H4.out.1)
  have HSZ := Lib.hid (show D.length = T.size from by rw [← HRT.out, strOfNums_size])
  have cvv : (convert 42 9 (.slice (some ⟨g4, 0, none⟩) N4 c4)).run Tryd.prog w4 = .ok (.string T) w4 := by
    have := conv_rd _ _ _ HM4.out.rd
    rw [HRT.out] at this
    exact this
  have H9 := Lib.hid (show Fr [] w w4 from HF5.out.2.trans H4.out.2 (fun x hx => .inr (HA4.out.lo (by simpa using hx)).1))
  have k9 : ((N4 : Nat) : Int) ≤ 4194304 := by have := HSZ.out; have := HTS.out; have := HD4.out; rw [← HDD.out] at this; omega
  go_wp2
  go_ret2
  exact ⟨rfl, H9.out⟩
set_option maxRecDepth 100000 in
set_option maxHeartbeats 8000000 in
theorem rline_way (w : World) (s : St) (p : Option Addr) (c : Nat) (hi : StI s) (h : mayS s = true) (hrd : Rd w (.slice p s.by'.length c) (u8s s.by')) (hk : 5 ≤ s.kd) :
    Calls Tryd.prog 12 #[s.val (.slice p s.by'.length c)] w fun e w' => e = .returned (.tuple #[.string (lineT s), .int .i64 0]) ∧ Fr [] w w' := by
  obtain ⟨T, hT⟩ : ∃ T, T = lineT s := ⟨_, rfl⟩
  have HT := Lib.hid hT
  rw [← hT]
  obtain ⟨W, hW⟩ : ∃ W, W = (wrdB s.kd).1 := ⟨_, rfl⟩
  obtain ⟨L, hL⟩ : ∃ L, L = (wrdB s.kd).2 := ⟨_, rfl⟩
  have HM := Lib.hid (fun W (f : Fr [] w W) => mayR_any W s (.slice p s.by'.length c) (hrd.grow f) hi.2.2.2.2)
  rw [h] at HM
  have HWD := Lib.hid (fun w => word_any w s.kd)
  rw [← hW, ← hL] at HWD
  have HWS := Lib.hid (show W.size ≤ 10 by rw [hW]; exact wrd_size _)
  have HS := Lib.hid (And.intro hi h)
  have HW := Lib.hid hW
  have hLK : L = ⟨#[78, 78]⟩ := by rw [hL]; exact wrd_nn ⟨hk, (may_kind h).2⟩
  obtain ⟨kd, la, sl, pl, by'⟩ := s
  have HRD := Lib.hid (show Rd w (.slice p by'.length c) (u8s by') from hrd)
  replace HM := Lib.hid (fun w' (f : Fr [] w w') => show Calls Tryd.prog 36 #[.agg #[.int .u8 kd, .int .i64 la, .int .i64 sl, .int .i64 pl, .slice p by'.length c]] w' fun e w2 => e = .returned (.bool true) ∧ Fr [] w' w2 from HM.out w' f)
  replace HWD := Lib.hid (fun w => show Calls Tryd.prog 37 #[.int .u8 kd] w _ from HWD.out w)
  show Calls Tryd.prog 12 #[.agg #[.int .u8 kd, .int .i64 la, .int .i64 sl, .int .i64 pl, .slice p by'.length c]] w _
  obtain ⟨n, hn⟩ : ∃ n, n = by'.length := ⟨_, rfl⟩
  rw [← hn] at HM ⊢
  have HNB := Lib.hid hn
  have hLL : L = ⟨#[78, 78]⟩ := hLK
  have e66 : (L.toList == [66]) = false := by rw [show ([66] : List UInt8) = (⟨#[66]⟩ : ByteArray).toList by kernel_rfl]; exact beq_not (by rw [hLL]; exact fun q => absurd (congrArg ByteArray.size q) (by decide))
  have e78 : (L.toList == [78]) = false := by rw [show ([78] : List UInt8) = (⟨#[78]⟩ : ByteArray).toList by kernel_rfl]; exact beq_not (by rw [hLL]; exact fun q => absurd (congrArg ByteArray.size q) (by decide))
  have e7878 : (L.toList == [78, 78]) = true := by rw [show ([78, 78] : List UInt8) = (⟨#[78, 78]⟩ : ByteArray).toList by kernel_rfl]; exact beq_is hLL
  clear hLL hLK
  have HKD := Lib.hid (show 5 ≤ kd from hk)
  clear hk hT hW hL hi h hn hrd
  obtain ⟨bx, hbx⟩ : ∃ bx, bx = w.heap.size := ⟨_, rfl⟩
  obtain ⟨w1, hw1⟩ : ∃ w1, w.alloc (.cells #[.int .u8 kd, .int .i64 la, .int .i64 sl, .int .i64 pl, .slice p n c] 44) = w1 := ⟨_, rfl⟩
  have hb : Blk w1 bx #[.int .u8 kd, .int .i64 la, .int .i64 sl, .int .i64 pl, .slice p n c] 44 := by rw [← hw1]; exact Blk.new_at hbx _ _
  have q1 := hb.st
  have H1 := Lib.hid (And.intro hb (show Fr [] w w1 by rw [← hw1]; exact (Fr.refl _ _).alloc _))
  have HW1 := Lib.hid hw1
  have HBX := Lib.hid hbx
  clear hb hbx hw1
  go_enter Tryd.func12, Tryd.ntmps12
  go_upto_region 1 with fail
  rw [HW1.out, ← HBX.out]
  go_wp2_with fail
  (with_reducible refine (HM.out _ H1.out.2).mono ?_)
  rintro e w2 ⟨rfl, f2⟩
  have H2 := Lib.hid (show Blk w2 bx _ 44 ∧ Fr [] w w2 from ⟨f2.blk H1.out.1 (by simp), H1.out.2.trans f2 (by simp)⟩)
  have c0 := H2.out.1.at 0 (v := .int .u8 kd) rfl
  clear f2 q1
  go_wp2_with fail
  (with_reducible refine (HWD.out _).mono ?_)
  rintro e wz ⟨rfl, hwz⟩
  rw [hwz]
  clear hwz c0
  obtain ⟨v3, w3, cv3, hm3, f3, hob3⟩ := conv_bytes w2 W w.heap.size H2.out.2.size
  obtain ⟨g3, c3, rfl⟩ := hm3.form
  have H3 := Lib.hid (show Blk w3 bx _ 44 ∧ Fr [] w w3 ∧ MkV w3 w.heap.size (.slice (some ⟨g3, 0, none⟩) (bytesI W).length c3) (bytesI W) from ⟨f3.blk H2.out.1 (by simp), H2.out.2.trans f3 (by simp), hm3⟩)
  obtain ⟨N3, hN3⟩ : ∃ N, N = (bytesI W).length := ⟨_, rfl⟩
  have HN3 := Lib.hid (show N3 = (bytesI W).length ∧ N3 ≤ 10 from ⟨hN3, by rw [hN3, bytesI_len]; exact HWS.out⟩)
  rw [← hN3] at cv3
  clear hm3 f3 hob3 hN3
  have HTS := Lib.hid (show T.size ≤ 60 from by rw [HT.out]; exact lineT_small (may_kind HS.out.2) (by have := HKD.out; show kd ≠ 1; omega) HS.out.1)
  have HIX := Lib.hid (fun W => numR_any W sl HS.out.1.2.2.1.1 HS.out.1.2.2.1.2)
  have HIY := Lib.hid (fun W => numR_any W pl HS.out.1.2.2.2.1.1 HS.out.1.2.2.2.1.2)
  obtain ⟨X, hX⟩ : ∃ X, X = numT sl := ⟨_, rfl⟩
  obtain ⟨Y, hY⟩ : ∃ Y, Y = numT pl := ⟨_, rfl⟩
  have HXS := Lib.hid (show X.size ≤ 20 ∧ Y.size ≤ 20 from ⟨by rw [hX]; exact numT_short sl HS.out.1.2.2.1.1 HS.out.1.2.2.1.2, by rw [hY]; exact numT_short pl HS.out.1.2.2.2.1.1 HS.out.1.2.2.2.1.2⟩)
  rw [← hX] at HIX
  rw [← hY] at HIY
  obtain ⟨X2, hX2⟩ : ∃ X2, X2 = (⟨#[32]⟩ : ByteArray) ++ X := ⟨_, rfl⟩
  obtain ⟨X3, hX3⟩ : ∃ X3, X3 = X2 ++ (⟨#[32]⟩ : ByteArray) := ⟨_, rfl⟩
  obtain ⟨X4, hX4⟩ : ∃ X4, X4 = X3 ++ Y := ⟨_, rfl⟩
  have hx2 : X2.size ≤ 21 := by rw [hX2, ByteArray.size_append, show (⟨#[32]⟩ : ByteArray).size = 1 from rfl]; have := HXS.out; omega
  have hx3 : X3.size ≤ 22 := by rw [hX3, ByteArray.size_append, show (⟨#[32]⟩ : ByteArray).size = 1 from rfl]; omega
  have HTL := Lib.hid (show X4.size ≤ 42 by rw [hX4, ByteArray.size_append]; have := HXS.out; omega)
  obtain ⟨D, hD⟩ : ∃ D, D = bytesI W ++ bytesI X4 := ⟨_, rfl⟩
  have HRT := Lib.hid (show strOfNums D = T from by
    rw [HT.out, hD, hX4, hX3, hX2, hX, hY]
    refine (lineT_of (may_kind HS.out.2) ?_).symm
    rw [strOfNums_app, strOfNums_bytesI, strOfNums_bytesI, HW.out, tailL_n HKD.out]
    simp [joinTail_nil, joinTail_cons])
  obtain ⟨N4, hN4⟩ : ∃ N4, D.length = N4 := ⟨_, rfl⟩
  have HD4 := Lib.hid (show (bytesI W ++ bytesI X4).length = N4 by rw [← hD]; exact hN4)
  have HDD := Lib.hid hD
  have HSM := Lib.hid (And.intro hx2 hx3)
  have HX2 := Lib.hid hX2.symm
  have HX3 := Lib.hid hX3.symm
  have HX4 := Lib.hid hX4.symm
  clear hX hY hX2 hX3 hX4 hD hN4 hx2 hx3
  go_wp2_with fail
  refine region_tail (by kernel_rfl) (by kernel_rfl) [[], [], [1], [1, 2], [1, 2, 3], [1, 2, 3, 4], [], [6], [1, 2, 3, 6, 7], [1, 2, 3, 4, 5, 6, 7, 8], [0, 1, 2, 3, 4, 5, 6, 7, 8, 9], [0, 1, 2, 3, 4, 5, 6, 7, 8, 9, 10]] (by kernel_rfl) 10 (by decide) (by kernel_rfl) [.is (.slice (some ⟨g3, 0, none⟩) N3 c3), .is (.pointer (some ⟨bx, 2, none⟩)), .is (.int .i64 sl), .is (.string X), .is (.string X2), .is (.string X3), .is (.pointer (some ⟨bx, 3, none⟩)), .is (.int .i64 pl), .is (.string Y), .is (.string X4)] 61 rfl (by kernel_rfl) ?_ ?_
  · intro q a1 W1 i hi hnq hd hG K hK
    have hlt : i < 10 := hi
    have hc : i = 0 ∨ i = 1 ∨ i = 2 ∨ i = 3 ∨ i = 4 ∨ i = 5 ∨ i = 6 ∨ i = 7 ∨ i = 8 ∨ i = 9 := by omega
    rcases hc with rfl | rfl | rfl | rfl | rfl | rfl | rfl | rfl | rfl | rfl
    · have e7 := hG.yet 61 (by kernel_rfl) 7 11 (by decide) rfl (fun h => hnq (hG.closed 11 h _ rfl ⟨0, .phase⟩ (by simp) rfl))
      refine op_do rfl (wanted_none rfl) hK (fun K' hK' => ?_)
      unfold Oper.wp
      go_simp
      exact hK' _ _ (Fr.refl _ _) rfl
    · have e1 := hG.old 1 (by kernel_rfl)
      refine op_do rfl (wanted_none rfl) hK (fun K' hK' => ?_)
      unfold Oper.wp
      go_simp
      exact hK' _ _ (Fr.refl _ _) rfl
    · have e46 := hG.val (v := .pointer (some ⟨bx, 2, none⟩)) 1 46 (hd _ rfl ⟨1, .data⟩ (by simp) rfl) rfl rfl
      have cc := (hG.grown.blk H3.out.1 (by simp)).at 2 (v := .int .i64 sl) rfl
      refine op_do rfl (wanted_none rfl) hK (fun K' hK' => ?_)
      unfold Oper.wp
      go_simp
      exact hK' _ _ (Fr.refl _ _) rfl
    · have e47 := hG.val (v := .int .i64 sl) 2 47 (hd _ rfl ⟨2, .data⟩ (by simp) rfl) rfl rfl
      refine op_do rfl (wanted_none rfl) hK (fun K' hK' => ?_)
      unfold Oper.wp
      go_simp
      refine (HIX.out W1).mono ?_
      rintro e W2 ⟨rfl, hf⟩
      exact hK' _ _ hf rfl
    · have e48 := hG.val (v := .string X) 3 48 (hd _ rfl ⟨3, .data⟩ (by simp) rfl) rfl rfl
      refine op_do rfl (wanted_none rfl) hK (fun K' hK' => ?_)
      unfold Oper.wp
      go_simp
      rw [if_neg (by have := HXS.out; have := HSM.out; omega), HX2.out]
      go_simp
      exact hK' _ _ (Fr.refl _ _) rfl
    · have e49 := hG.val (v := .string X2) 4 49 (hd _ rfl ⟨4, .data⟩ (by simp) rfl) rfl rfl
      refine op_do rfl (wanted_none rfl) hK (fun K' hK' => ?_)
      unfold Oper.wp
      go_simp
      rw [if_neg (by have := HXS.out; have := HSM.out; omega), HX3.out]
      go_simp
      exact hK' _ _ (Fr.refl _ _) rfl
    · have e1 := hG.old 1 (by kernel_rfl)
      refine op_do rfl (wanted_none rfl) hK (fun K' hK' => ?_)
      unfold Oper.wp
      go_simp
      exact hK' _ _ (Fr.refl _ _) rfl
    · have e51 := hG.val (v := .pointer (some ⟨bx, 3, none⟩)) 6 51 (hd _ rfl ⟨6, .data⟩ (by simp) rfl) rfl rfl
      have cc := (hG.grown.blk H3.out.1 (by simp)).at 3 (v := .int .i64 pl) rfl
      refine op_do rfl (wanted_none rfl) hK (fun K' hK' => ?_)
      unfold Oper.wp
      go_simp
      exact hK' _ _ (Fr.refl _ _) rfl
    · have e52 := hG.val (v := .int .i64 pl) 7 52 (hd _ rfl ⟨7, .data⟩ (by simp) rfl) rfl rfl
      refine op_do rfl (wanted_none rfl) hK (fun K' hK' => ?_)
      unfold Oper.wp
      go_simp
      refine (HIY.out W1).mono ?_
      rintro e W2 ⟨rfl, hf⟩
      exact hK' _ _ hf rfl
    · have e50 := hG.val (v := .string X3) 5 50 (hd _ rfl ⟨5, .data⟩ (by simp) rfl) rfl rfl
      have e53 := hG.val (v := .string Y) 8 53 (hd _ rfl ⟨8, .data⟩ (by simp) rfl) rfl rfl
      refine op_do rfl (wanted_none rfl) hK (fun K' hK' => ?_)
      unfold Oper.wp
      go_simp
      rw [if_neg (by have := HXS.out; have := HSM.out; omega), HX4.out]
      go_simp
      exact hK' _ _ (Fr.refl _ _) rfl
  · intro q a1 W1 hq hG
    have f1 := hG.grown
    obtain ⟨vs, hv, rfl⟩ := hG.front 61 rfl (by kernel_rfl) (by decide) hq [(0, 45), (1, 46), (2, 47), (3, 48), (4, 49), (5, 50), (6, 51), (7, 52), (8, 53), (9, 54)] (by kernel_rfl)
    clear hG hq
    have r0 : vs 0 = .slice (some ⟨g3, 0, none⟩) N3 c3 := hv 0 45 (by decide) rfl
    have r1 : vs 1 = .pointer (some ⟨bx, 2, none⟩) := hv 1 46 (by decide) rfl
    have r2 : vs 2 = .int .i64 sl := hv 2 47 (by decide) rfl
    have r3 : vs 3 = .string X := hv 3 48 (by decide) rfl
    have r4 : vs 4 = .string X2 := hv 4 49 (by decide) rfl
    have r5 : vs 5 = .string X3 := hv 5 50 (by decide) rfl
    have r6 : vs 6 = .pointer (some ⟨bx, 3, none⟩) := hv 6 51 (by decide) rfl
    have r7 : vs 7 = .int .i64 pl := hv 7 52 (by decide) rfl
    have r8 : vs 8 = .string Y := hv 8 53 (by decide) rfl
    have r9 : vs 9 = .string X4 := hv 9 54 (by decide) rfl
    simp only [List.drop_succ_cons, List.drop_zero, lay, List.foldl_cons, List.foldl_nil, r0, r1, r2, r3, r4, r5, r6, r7, r8, r9]
    simp only [List.setIfInBounds_toArray, List.set_cons_zero, List.set_cons_succ]
    clear hv r0 r1 r2 r3 r4 r5 r6 r7 r8 r9
    clear vs
    have HF5 := Lib.hid (And.intro f1 (H3.out.2.1.trans f1 (by simp)))
    have HA4 := Lib.hid (show MkV W1 w.heap.size (.slice (some ⟨g3, 0, none⟩) N3 c3) (bytesI W) by rw [HN3.out.1]; exact H3.out.2.2.fr f1 (by simp))
    have HN4 := Lib.hid HF5.out.2.size
    clear f1
    go_upto_region 16 with (at_builtin; go_must (refine wpList_appS HA4.out HN4.out rfl _ _ rfl rfl X4 rfl (by have h1 := HN3.out; have := HTL.out; rw [← h1.1]; omega) ?_); intro v4 w4 hm4 f4; obtain ⟨g4, c4, rfl⟩ := hm4.form; have H4 := Lib.hid (And.intro hm4 f4); clear hm4 f4; rw [HD4.out])
    have HM4 := Lib.hid (show MkV w4 w.heap.size (.slice (some ⟨g4, 0, none⟩) N4 c4) D by rw [← HD4.out, HDD.out]; exact H4.out.1)
    have HSZ := Lib.hid (show D.length = T.size from by rw [← HRT.out, strOfNums_size])
    have cvv : (convert 42 9 (.slice (some ⟨g4, 0, none⟩) N4 c4)).run Tryd.prog w4 = .ok (.string T) w4 := by
      have := conv_rd _ _ _ HM4.out.rd
      rw [HRT.out] at this
      exact this
    have H9 := Lib.hid (show Fr [] w w4 from HF5.out.2.trans H4.out.2 (fun x hx => .inr (HA4.out.lo (by simpa using hx)).1))
    have k9 : ((N4 : Nat) : Int) ≤ 4194304 := by have := HSZ.out; have := HTS.out; have := HD4.out; rw [← HDD.out] at this; omega
    go_wp2
    go_ret2
    exact ⟨rfl, H9.out⟩
end Sc
end Go.Proofs.YtbpgpjibljgiiaaDoor
namespace Go.Proofs.YtbpgpjibljgiiaaDoor
open Go.RowKit
set_option linter.unusedVariables false
set_option linter.unusedSimpArgs false
attribute [local go_sem] Oper.semAt_some
namespace Sc
theorem BytV.pos {W : World} {n0 : Nat} {v : Value} {l : List Int} (h : BytV W n0 v l) (h0 : 0 < l.length) : ∃ g c, v = .slice (some ⟨g, 0, none⟩) l.length c ∧ ∀ j u, (u8s l)[j]? = some u → W.cell? ((⟨g, 0, none⟩ : Addr).add j) = some u := by
  rcases h.1.2 with ⟨_, h2⟩ | ⟨g, cap, cur, hv, _⟩
  · omega
  · exact ⟨g, cap, hv, h.1.cells (g := g) (by rw [hv]; rfl)⟩
set_option maxRecDepth 100000 in
set_option maxHeartbeats 8000000 in
theorem rcmd_long (w : World) (s : St) (p : Option Addr) (c : Nat) (hi : StI s) (h : mayS s = true) (hrd : Rd w (.slice p s.by'.length c) (u8s s.by')) (hk : s.kd = 1) (hlong : 4194304 < s.by'.length) :
    Calls Tryd.prog 12 #[s.val (.slice p s.by'.length c)] w fun e w' => e = .returned (.tuple #[.string ⟨#[]⟩, .int .i64 4]) ∧ Fr [] w w' := by
  obtain ⟨T, hT⟩ : ∃ T, T = lineT s := ⟨_, rfl⟩
  have HT := Lib.hid hT
  obtain ⟨W, hW⟩ : ∃ W, W = (wrdB s.kd).1 := ⟨_, rfl⟩
  obtain ⟨L, hL⟩ : ∃ L, L = (wrdB s.kd).2 := ⟨_, rfl⟩
  have HM := Lib.hid (fun W (f : Fr [] w W) => mayR_any W s (.slice p s.by'.length c) (hrd.grow f) hi.2.2.2.2)
  rw [h] at HM
  have HWD := Lib.hid (fun w => word_any w s.kd)
  rw [← hW, ← hL] at HWD
  have HWS := Lib.hid (show W.size ≤ 10 by rw [hW]; exact wrd_size _)
  have HS := Lib.hid (And.intro hi h)
  have HW := Lib.hid hW
  have hLK : L = ⟨#[66]⟩ := by rw [hL]; rw [hk]; rfl
  obtain ⟨kd, la, sl, pl, by'⟩ := s
  obtain rfl : kd = 1 := hk
  have HRD := Lib.hid (show Rd w (.slice p by'.length c) (u8s by') from hrd)
  replace HM := Lib.hid (fun w' (f : Fr [] w w') => show Calls Tryd.prog 36 #[.agg #[.int .u8 1, .int .i64 la, .int .i64 sl, .int .i64 pl, .slice p by'.length c]] w' fun e w2 => e = .returned (.bool true) ∧ Fr [] w' w2 from HM.out w' f)
  replace HWD := Lib.hid (fun w => show Calls Tryd.prog 37 #[.int .u8 1] w _ from HWD.out w)
  show Calls Tryd.prog 12 #[.agg #[.int .u8 1, .int .i64 la, .int .i64 sl, .int .i64 pl, .slice p by'.length c]] w _
  obtain ⟨n, hn⟩ : ∃ n, n = by'.length := ⟨_, rfl⟩
  rw [← hn] at HM ⊢
  have HNB := Lib.hid hn
  have hLL : L = ⟨#[66]⟩ := hLK
  have e66 : (L.toList == [66]) = true := by rw [show ([66] : List UInt8) = (⟨#[66]⟩ : ByteArray).toList by kernel_rfl]; exact beq_is hLL
  clear hLL hLK
  have k1 : (4194304 : Int) < (n : Int) := by have h1 : 4194304 < by'.length := hlong; omega
  clear hlong hT hW hL hi h hn hrd
  obtain ⟨bx, hbx⟩ : ∃ bx, bx = w.heap.size := ⟨_, rfl⟩
  obtain ⟨w1, hw1⟩ : ∃ w1, w.alloc (.cells #[.int .u8 1, .int .i64 la, .int .i64 sl, .int .i64 pl, .slice p n c] 44) = w1 := ⟨_, rfl⟩
  have hb : Blk w1 bx #[.int .u8 1, .int .i64 la, .int .i64 sl, .int .i64 pl, .slice p n c] 44 := by rw [← hw1]; exact Blk.new_at hbx _ _
  have q1 := hb.st
  have H1 := Lib.hid (And.intro hb (show Fr [] w w1 by rw [← hw1]; exact (Fr.refl _ _).alloc _))
  have HW1 := Lib.hid hw1
  have HBX := Lib.hid hbx
  clear hb hbx hw1
  go_enter Tryd.func12, Tryd.ntmps12
  go_upto_region 1 with fail
  rw [HW1.out, ← HBX.out]
  go_wp2_with fail
  (with_reducible refine (HM.out _ H1.out.2).mono ?_)
  rintro e w2 ⟨rfl, f2⟩
  have H2 := Lib.hid (show Blk w2 bx _ 44 ∧ Fr [] w w2 from ⟨f2.blk H1.out.1 (by simp), H1.out.2.trans f2 (by simp)⟩)
  have c0 := H2.out.1.at 0 (v := .int .u8 1) rfl
  clear f2 q1
  go_wp2_with fail
  (with_reducible refine (HWD.out _).mono ?_)
  rintro e wz ⟨rfl, hwz⟩
  rw [hwz]
  clear hwz c0
  obtain ⟨v3, w3, cv3, hm3, f3, hob3⟩ := conv_bytes w2 W w.heap.size H2.out.2.size
  obtain ⟨g3, c3, rfl⟩ := hm3.form
  have H3 := Lib.hid (show Blk w3 bx _ 44 ∧ Fr [] w w3 ∧ MkV w3 w.heap.size (.slice (some ⟨g3, 0, none⟩) (bytesI W).length c3) (bytesI W) from ⟨f3.blk H2.out.1 (by simp), H2.out.2.trans f3 (by simp), hm3⟩)
  obtain ⟨N3, hN3⟩ : ∃ N, N = (bytesI W).length := ⟨_, rfl⟩
  have HN3 := Lib.hid (show N3 = (bytesI W).length ∧ N3 ≤ 10 from ⟨hN3, by rw [hN3, bytesI_len]; exact HWS.out⟩)
  rw [← hN3] at cv3
  clear hm3 f3 hob3 hN3
  have c4 := H3.out.1.at 4 (v := .slice p n c) rfl
  have H3F := Lib.hid H3.out.2.1
  go_wp2
  go_ret2
  exact ⟨rfl, H3F.out⟩
set_option maxRecDepth 100000 in
set_option maxHeartbeats 8000000 in
theorem rcmd_main (w : World) (s : St) (p : Option Addr) (c : Nat) (hi : StI s) (h : mayS s = true) (hrd : Rd w (.slice p s.by'.length c) (u8s s.by')) (hk : s.kd = 1) (hshort : s.by'.length ≤ 4194304) :
    Calls Tryd.prog 12 #[s.val (.slice p s.by'.length c)] w fun e w' => e = .returned (.tuple #[.string (if 4194304 < (lineT s).size then ⟨#[]⟩ else lineT s), .int .i64 (if 4194304 < (lineT s).size then 4 else 0)]) ∧ Fr [] w w' := by
  obtain ⟨T, hT⟩ : ∃ T, T = lineT s := ⟨_, rfl⟩
  have HT := Lib.hid hT
  rw [← hT]
  obtain ⟨R, hR⟩ : ∃ R : ByteArray, R = (if 4194304 < T.size then ⟨#[]⟩ else T) := ⟨_, rfl⟩
  obtain ⟨E, hE⟩ : ∃ E : Int, E = (if 4194304 < T.size then 4 else 0) := ⟨_, rfl⟩
  rw [← hR, ← hE]
  have HRE := Lib.hid (And.intro hR hE)
  clear hR hE
  obtain ⟨W, hW⟩ : ∃ W, W = (wrdB s.kd).1 := ⟨_, rfl⟩
  obtain ⟨L, hL⟩ : ∃ L, L = (wrdB s.kd).2 := ⟨_, rfl⟩
  have HM := Lib.hid (fun W (f : Fr [] w W) => mayR_any W s (.slice p s.by'.length c) (hrd.grow f) hi.2.2.2.2)
  rw [h] at HM
  have HWD := Lib.hid (fun w => word_any w s.kd)
  rw [← hW, ← hL] at HWD
  have HWS := Lib.hid (show W.size ≤ 10 by rw [hW]; exact wrd_size _)
  have HS := Lib.hid (And.intro hi h)
  have HW := Lib.hid hW
  have hLK : L = ⟨#[66]⟩ := by rw [hL]; rw [hk]; rfl
  obtain ⟨kd, la, sl, pl, by'⟩ := s
  obtain rfl : kd = 1 := hk
  have HRD := Lib.hid (show Rd w (.slice p by'.length c) (u8s by') from hrd)
  replace HM := Lib.hid (fun w' (f : Fr [] w w') => show Calls Tryd.prog 36 #[.agg #[.int .u8 1, .int .i64 la, .int .i64 sl, .int .i64 pl, .slice p by'.length c]] w' fun e w2 => e = .returned (.bool true) ∧ Fr [] w' w2 from HM.out w' f)
  replace HWD := Lib.hid (fun w => show Calls Tryd.prog 37 #[.int .u8 1] w _ from HWD.out w)
  show Calls Tryd.prog 12 #[.agg #[.int .u8 1, .int .i64 la, .int .i64 sl, .int .i64 pl, .slice p by'.length c]] w _
  obtain ⟨n, hn⟩ : ∃ n, n = by'.length := ⟨_, rfl⟩
  rw [← hn] at HM ⊢
  have HNB := Lib.hid hn
  have hLL : L = ⟨#[66]⟩ := hLK
  have e66 : (L.toList == [66]) = true := by rw [show ([66] : List UInt8) = (⟨#[66]⟩ : ByteArray).toList by kernel_rfl]; exact beq_is hLL
  clear hLL hLK
  have HSH := Lib.hid (show by'.length ≤ 4194304 from hshort)
  have k1 : (n : Int) ≤ 4194304 := by have h1 : by'.length ≤ 4194304 := hshort; omega
  clear hshort hT hW hL hi h hn hrd
  obtain ⟨bx, hbx⟩ : ∃ bx, bx = w.heap.size := ⟨_, rfl⟩
  obtain ⟨w1, hw1⟩ : ∃ w1, w.alloc (.cells #[.int .u8 1, .int .i64 la, .int .i64 sl, .int .i64 pl, .slice p n c] 44) = w1 := ⟨_, rfl⟩
  have hb : Blk w1 bx #[.int .u8 1, .int .i64 la, .int .i64 sl, .int .i64 pl, .slice p n c] 44 := by rw [← hw1]; exact Blk.new_at hbx _ _
  have q1 := hb.st
  have H1 := Lib.hid (And.intro hb (show Fr [] w w1 by rw [← hw1]; exact (Fr.refl _ _).alloc _))
  have HW1 := Lib.hid hw1
  have HBX := Lib.hid hbx
  clear hb hbx hw1
  go_enter Tryd.func12, Tryd.ntmps12
  go_upto_region 1 with fail
  rw [HW1.out, ← HBX.out]
  go_wp2_with fail
  (with_reducible refine (HM.out _ H1.out.2).mono ?_)
  rintro e w2 ⟨rfl, f2⟩
  have H2 := Lib.hid (show Blk w2 bx _ 44 ∧ Fr [] w w2 from ⟨f2.blk H1.out.1 (by simp), H1.out.2.trans f2 (by simp)⟩)
  have c0 := H2.out.1.at 0 (v := .int .u8 1) rfl
  clear f2 q1
  go_wp2_with fail
  (with_reducible refine (HWD.out _).mono ?_)
  rintro e wz ⟨rfl, hwz⟩
  rw [hwz]
  clear hwz c0
  obtain ⟨v3, w3, cv3, hm3, f3, hob3⟩ := conv_bytes w2 W w.heap.size H2.out.2.size
  obtain ⟨g3, c3, rfl⟩ := hm3.form
  have H3 := Lib.hid (show Blk w3 bx _ 44 ∧ Fr [] w w3 ∧ MkV w3 w.heap.size (.slice (some ⟨g3, 0, none⟩) (bytesI W).length c3) (bytesI W) from ⟨f3.blk H2.out.1 (by simp), H2.out.2.trans f3 (by simp), hm3⟩)
  obtain ⟨N3, hN3⟩ : ∃ N, N = (bytesI W).length := ⟨_, rfl⟩
  have HN3 := Lib.hid (show N3 = (bytesI W).length ∧ N3 ≤ 10 from ⟨hN3, by rw [hN3, bytesI_len]; exact HWS.out⟩)
  rw [← hN3] at cv3
  clear hm3 f3 hob3 hN3
  have c4 := H3.out.1.at 4 (v := .slice p n c) rfl
  have HA3 := Lib.hid (show MkV (w3.alloc (.cells #[.int .u8 32] 5)) w.heap.size (.slice (some ⟨g3, 0, none⟩) N3 c3) (bytesI W) by rw [HN3.out.1]; exact H3.out.2.2.fr ((Fr.refl [] w3).alloc _) (by simp))
  have HNA := Lib.hid (show w.heap.size ≤ (w3.alloc (.cells #[.int .u8 32] 5)).heap.size from Nat.le_trans H3.out.2.1.size (by simp))
  have HNW := Lib.hid (new_list w3 [.int .u8 32] 5 _ rfl)
  have HB3 := Lib.hid (show Blk (w3.alloc (.cells #[.int .u8 32] 5)) bx _ 44 from H3.out.1.alloc _)
  have HF3 := Lib.hid (show Fr [] w (w3.alloc (.cells #[.int .u8 32] 5)) from H3.out.2.1.alloc _)
  obtain ⟨D4, hD4⟩ : ∃ D, D = bytesI W ++ [32] := ⟨_, rfl⟩
  obtain ⟨N4, hN4⟩ : ∃ N, (bytesI W ++ [32]).length = N := ⟨_, rfl⟩
  have HD4 := Lib.hid (show D4 = bytesI W ++ [32] ∧ (bytesI W ++ [32]).length = N4 ∧ N4 ≤ 11 from ⟨hD4, hN4, by rw [← hN4, List.length_append, ← HN3.out.1]; have := HN3.out.2; simp; omega⟩)
  clear hD4 hN4
  go_upto_region 11 with (at_builtin; go_must (refine wpList_appM HA3.out HNA.out rfl _ _ rfl rfl ⟨w3.heap.size, 0, none⟩ 1 1 [32] rfl rfl HNW.out (by have h1 := HN3.out; rw [← h1.1]; omega) ?_); intro v4 w4 hm4 f4; obtain ⟨g4, c5, rfl⟩ := hm4.form; have H4 := Lib.hid (And.intro hm4 f4); clear hm4 f4; rw [HD4.out.2.1])
  have hf4 : Fr [] w w4 := HF3.out.trans H4.out.2 (fun x hx => .inr (HA3.out.lo (by simpa using hx)).1)
  have hb4 := H4.out.2.blk HB3.out (fun q => HA3.out.ne (by simpa using q) HB3.out (by decide) rfl)
  have H4B := Lib.hid (show Blk w4 bx _ 44 ∧ Fr [] w w4 ∧ MkV w4 w.heap.size (.slice (some ⟨g4, 0, none⟩) N4 c5) D4 from ⟨hb4, hf4, by rw [HD4.out.1, ← HD4.out.2.1]; exact H4.out.1⟩)
  have c44 := hb4.at 4 (v := .slice p n c) rfl
  have HHX := Lib.hid (hex_any w4 (.slice p by'.length c) by' (HRD.out.grow hf4) HS.out.1.2.2.2.2 (by have := HSH.out; omega))
  rw [← HNB.out] at HHX
  clear c4 hf4 hb4
  go_wp2_with fail
  (with_reducible refine HHX.out.mono ?_)
  rintro e w5 ⟨v5, rfl, hv5, f5⟩
  have hx1 : 0 < (hexN by').length := by rw [hexN_len]; split <;> rename_i q; exact Nat.one_pos; have := List.length_pos_iff.2 q; omega
  obtain ⟨g5, c6, rfl, hcl5⟩ := hv5.pos hx1
  have HX := Lib.hid (show (hexN by').length ≤ 8388608 by rw [hexN_len]; have := HSH.out; split <;> omega)
  have H5 := Lib.hid (show Fr [] w w5 ∧ MkV w5 w.heap.size (.slice (some ⟨g4, 0, none⟩) N4 c5) D4 from ⟨H4B.out.2.1.trans f5 (by simp), H4B.out.2.2.fr f5 (by simp)⟩)
  have HC5 := Lib.hid hcl5
  obtain ⟨M5, hM5⟩ : ∃ M, M = (hexN by').length := ⟨_, rfl⟩
  have HM5 := Lib.hid hM5
  obtain ⟨D, hD⟩ : ∃ D, D = D4 ++ hexN by' := ⟨_, rfl⟩
  have HRT := Lib.hid (show strOfNums D = T from by
    rw [HT.out, hD, HD4.out.1]
    refine (lineT_of (may_kind HS.out.2) ?_).symm
    rw [strOfNums_app, strOfNums_app, strOfNums_bytesI, HW.out, show tailL _ = [strOfNums (hexN by')] from rfl, show (strOfNums [32]).data.toList = [32] from rfl]
    simp [joinTail_nil, joinTail_cons])
  obtain ⟨N6, hN6⟩ : ∃ N, D.length = N := ⟨_, rfl⟩
  have HD6 := Lib.hid (show (D4 ++ hexN by').length = N6 by rw [← hD]; exact hN6)
  have HDD := Lib.hid hD
  have HL4 := Lib.hid (show D4.length ≤ 11 by rw [HD4.out.1, HD4.out.2.1]; exact HD4.out.2.2)
  rw [← hM5]
  clear hv5 f5 hx1 hcl5 hM5 hD hN6 c44
  go_upto_region 16 with (at_builtin; go_must (refine wpList_appM H5.out.2 H5.out.1.size rfl _ _ rfl rfl ⟨g5, 0, none⟩ M5 c6 (hexN by') rfl HM5.out.symm HC5.out (by have h1 := HL4.out; have := HX.out; rw [HM5.out]; omega) ?_); intro v6 w6 hm6 f6; obtain ⟨g6, c7, rfl⟩ := hm6.form; have H6 := Lib.hid (And.intro hm6 f6); clear hm6 f6; rw [HD6.out])
  have HM6 := Lib.hid (show MkV w6 w.heap.size (.slice (some ⟨g6, 0, none⟩) N6 c7) D by rw [← HD6.out, HDD.out]; exact H6.out.1)
  have HSZ := Lib.hid (show D.length = T.size from by rw [← HRT.out, strOfNums_size])
  have cvv : (convert 42 9 (.slice (some ⟨g6, 0, none⟩) N6 c7)).run Tryd.prog w6 = .ok (.string T) w6 := by
    have := conv_rd _ _ _ HM6.out.rd
    rw [HRT.out] at this
    exact this
  have H9 := Lib.hid (show Fr [] w w6 from H5.out.1.trans H6.out.2 (fun x hx => .inr (H5.out.2.lo (by simpa using hx)).1))
  by_cases hov : 4194304 < T.size
  · have k9 : (4194304 : Int) < ((N6 : Nat) : Int) := by have := HSZ.out; have := HD6.out; rw [← HDD.out] at this; omega
    obtain rfl : R = ⟨#[]⟩ := by rw [HRE.out.1, if_pos hov]
    obtain rfl : E = 4 := by rw [HRE.out.2, if_pos hov]
    clear hov cvv
    go_wp2
    go_ret2
    exact ⟨rfl, H9.out⟩
  · have k9 : ((N6 : Nat) : Int) ≤ 4194304 := by have := HSZ.out; have := HD6.out; rw [← HDD.out] at this; omega
    obtain rfl : R = T := by rw [HRE.out.1, if_neg hov]
    obtain rfl : E = 0 := by rw [HRE.out.2, if_neg hov]
    clear hov
    go_wp2
    go_ret2
    exact ⟨rfl, H9.out⟩
end Sc
end Go.Proofs.YtbpgpjibljgiiaaDoor
namespace Go.Proofs.YtbpgpjibljgiiaaDoor
open Go.RowKit
set_option linter.unusedVariables false
set_option linter.unusedSimpArgs false
attribute [local go_sem] Oper.semAt_some
namespace Sc
set_option maxRecDepth 100000 in
set_option maxHeartbeats 4000000 in
theorem rline_bad (w : World) (s : St) (p : Option Addr) (c : Nat) (hby : Byt s.by') (hrd : Rd w (.slice p s.by'.length c) (u8s s.by')) (h : mayS s = false) :
    Calls Tryd.prog 12 #[s.val (.slice p s.by'.length c)] w fun e w' => e = .returned (.tuple #[.string (lineX s), .int .i64 (lineE s)]) ∧ Fr [] w w' := by
  rw [(lineE_bad h).1, (lineE_bad h).2]
  have HM := Lib.hid (fun W (f : Fr [] w W) => mayR_any W s (.slice p s.by'.length c) (hrd.grow f) hby)
  rw [h] at HM
  obtain ⟨kd, la, sl, pl, by'⟩ := s
  replace HM := Lib.hid (fun W (f : Fr [] w W) => show Calls Tryd.prog 36 #[.agg #[.int .u8 kd, .int .i64 la, .int .i64 sl, .int .i64 pl, .slice p by'.length c]] W _ from HM.out W f)
  show Calls Tryd.prog 12 #[.agg #[.int .u8 kd, .int .i64 la, .int .i64 sl, .int .i64 pl, .slice p by'.length c]] w _
  obtain ⟨n, hn⟩ : ∃ n, n = by'.length := ⟨_, rfl⟩
  rw [← hn] at HM ⊢
  clear hby hrd h hn
  obtain ⟨bx, hbx⟩ : ∃ bx, bx = w.heap.size := ⟨_, rfl⟩
  obtain ⟨w1, hw1⟩ : ∃ w1, w.alloc (.cells #[.int .u8 kd, .int .i64 la, .int .i64 sl, .int .i64 pl, .slice p n c] 44) = w1 := ⟨_, rfl⟩
  have hb : Blk w1 bx #[.int .u8 kd, .int .i64 la, .int .i64 sl, .int .i64 pl, .slice p n c] 44 := by rw [← hw1]; exact Blk.new_at hbx _ _
  have q1 := hb.st
  have H1 := Lib.hid (show Fr [] w w1 by rw [← hw1]; exact (Fr.refl _ _).alloc _)
  have HW1 := Lib.hid hw1
  have HBX := Lib.hid hbx
  clear hb hbx hw1
  go_enter Tryd.func12, Tryd.ntmps12
  go_upto_region 1 with fail
  rw [HW1.out, ← HBX.out]
  go_wp2_with fail
  (with_reducible refine (HM.out _ H1.out).mono ?_)
  rintro e w2 ⟨rfl, f2⟩
  have H2 := Lib.hid (H1.out.trans f2 (by simp))
  clear f2
  go_wp2
  go_ret2
  exact ⟨rfl, H2.out⟩
theorem rline_any (w : World) (s : St) (p : Option Addr) (c : Nat) (hi : StI s) (hrd : Rd w (.slice p s.by'.length c) (u8s s.by')) :
    Calls Tryd.prog 12 #[s.val (.slice p s.by'.length c)] w fun e w' => e = .returned (.tuple #[.string (lineX s), .int .i64 (lineE s)]) ∧ Fr [] w w' := by
  cases h : mayS s with
  | false => exact rline_bad w s p c hi.2.2.2.2 hrd h
  | true =>
    have hk := may_kind h
    by_cases h1 : s.kd = 1
    · have hsz := lineT_one h1
      by_cases hl : 4194304 < s.by'.length
      · rw [(lineE_long h h1 (by omega)).1, (lineE_long h h1 (by omega)).2]
        exact rcmd_long w s p c hi h hrd h1 hl
      · have hr : Value.tuple #[.string (lineX s), .int .i64 (lineE s)] = (.tuple #[.string (if 4194304 < (lineT s).size then ⟨#[]⟩ else lineT s), .int .i64 (if 4194304 < (lineT s).size then 4 else 0)]) := by
          by_cases ho : 4194304 < (lineT s).size
          · rw [if_pos ho, if_pos ho, (lineE_over h ho).1, (lineE_over h ho).2]
          · have hq : ¬ (s.kd = 1 ∧ 2097152 < s.by'.length) := fun q => by
              have h2 := q.2
              have h3 : s.by' ≠ [] := fun e => by rw [e] at h2; simp at h2
              rw [if_neg h3] at hsz
              omega
            rw [if_neg ho, if_neg ho, (lineE_good h hq ho).1, (lineE_good h hq ho).2]
        rw [hr]
        exact rcmd_main w s p c hi h hrd h1 (by omega)
    · have hs := lineT_small hk h1 hi
      have hg := lineE_good h (fun q => h1 q.1) (by omega)
      rw [hg.1, hg.2]
      rcases (show s.kd = 2 ∨ s.kd = 3 ∨ s.kd = 4 ∨ 5 ≤ s.kd by omega) with q | q | q | q
      · exact rline_lane w s p c hi h hrd q
      · exact rline_turn w s p c hi h hrd q
      · exact rline_tick w s p c hi h hrd q
      · exact rline_way w s p c hi h hrd q
end Sc
end Go.Proofs.YtbpgpjibljgiiaaDoor
