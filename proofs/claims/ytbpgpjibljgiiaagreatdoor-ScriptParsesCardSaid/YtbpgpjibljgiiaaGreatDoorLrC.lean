/-
  Bytes made of a text, and what is appended to them: their row bears a mark behind its end. Script, the document: the line of a step. Printed by genLr.py. Script, the document: the line of a command, and of any step. Printed by genLs.py. Script, the document: Line, of any step.
-/
import Derived.Test.YtbpgpjibljgiiaaGreatDoorLnD
import Derived.Lib.ConvBytes
import Derived.Lib.AppendStr
namespace Go.Proofs.YtbpgpjibljgiiaaGreatDoor
open Go.RowKit
set_option linter.unusedVariables false
set_option linter.unusedSimpArgs false
/-- Bytes whose row may be written, in memory that is not older than n0. -/
def MkV (W : World) (n0 : Nat) (v : Value) (l : List Int) : Prop :=
  ∃ g cap cur fz, v = .slice (some ⟨g, 0, none⟩) l.length cap ∧ n0 ≤ g ∧ W.heap[g]? = some (.cells cur 5 fz) ∧ cur.size = cap ∧ (cap ≤ fz.1 ∨ fz.2 = 0) ∧ l.length ≤ cap ∧ ∀ (j : Nat) u, (Sc.u8s l)[j]? = some u → W.cell? ⟨g, j, none⟩ = some u
theorem u8s_len (l : List Int) : (Sc.u8s l).length = l.length := by simp [Sc.u8s]
theorem MkV.form {W : World} {n0 : Nat} {v : Value} {l : List Int} (h : MkV W n0 v l) : ∃ g c, v = .slice (some ⟨g, 0, none⟩) l.length c := by
  obtain ⟨g, cap, cur, fz, rfl, -⟩ := h
  exact ⟨g, cap, rfl⟩
theorem MkV.rd {W : World} {n0 : Nat} {v : Value} {l : List Int} (h : MkV W n0 v l) : Rd W v (Sc.u8s l) := by
  obtain ⟨g, cap, cur, fz, rfl, -, -, -, -, hc, h6⟩ := h
  exact ⟨_, cap, by rw [u8s_len], by rw [u8s_len]; exact hc, .inr ⟨g, 0, rfl, fun k u hk => by rw [Nat.zero_add]; exact h6 k u hk⟩⟩
theorem MkV.lo {W : World} {n0 g : Nat} {v : Value} {l : List Int} (h : MkV W n0 v l) (hg : v.ownBlock = some g) : n0 ≤ g ∧ g < W.heap.size := by
  obtain ⟨g', cap, cur, fz, rfl, h1, h2, -⟩ := h
  simp [Value.ownBlock] at hg
  subst hg
  exact ⟨h1, (Array.getElem?_eq_some_iff.1 h2).1⟩
theorem MkV.ne {W : World} {n0 g b : Nat} {v : Value} {l : List Int} {c : Array Value} {e : TypeId} (h : MkV W n0 v l) (hg : v.ownBlock = some g) (hb : Blk W b c e) (he : 5 ≠ e) : b ≠ g := by
  obtain ⟨g', cap, cur, fz, rfl, h1, h2, -⟩ := h
  simp [Value.ownBlock] at hg
  subst hg
  rintro rfl
  have := h2.symm.trans hb
  simp at this
  exact he this.2.1
theorem MkV.fr {S : List Nat} {W W' : World} {n0 : Nat} {v : Value} {l : List Int} (h : MkV W n0 v l) (f : Fr S W W') (hs : ∀ g, v.ownBlock = some g → g ∉ S) : MkV W' n0 v l := by
  obtain ⟨g, cap, cur, fz, rfl, h1, h2, h3, h4, h5, h6⟩ := h
  have hb := f.block g (Array.getElem?_eq_some_iff.1 h2).1 (hs g rfl)
  exact ⟨g, cap, cur, fz, rfl, h1, hb.trans h2, h3, h4, h5, fun j u hu => (World.cell?_of_block hb).trans (h6 j u hu)⟩
/-- The numbers of a text's bytes. -/
def bytesI (s : ByteArray) : List Int := s.data.toList.map fun b => (b.toNat : Int)
theorem bytesI_len (s : ByteArray) : (bytesI s).length = s.size := by unfold bytesI; rw [List.length_map, Array.length_toList]; rfl
theorem bytesI_cells (s : ByteArray) : Sc.u8s (bytesI s) = Lib.strCells s := by unfold Sc.u8s bytesI Lib.strCells; rw [List.map_map]; rfl
theorem conv_bytes (w : World) (s : ByteArray) (n0 : Nat) (hn : n0 ≤ w.heap.size) : ∃ v w', (convert 9 62 (.string s)).run Tryz.prog w = .ok v w' ∧ MkV w' n0 v (bytesI s) ∧ Fr [] w w' ∧ v.ownBlock = some w.heap.size := by
  refine ⟨_, _, Lib.run_convert_string_bytes w 9 62 5 s Tryz.underlying9 Tryz.underlying62 Tryz.underlying5, ?_, ?_, rfl⟩
  · have hge := grownCap_ge w s.size 0 5
    have hsz : (Lib.bytesCells w 5 s).size = grownCap w s.size 0 5 := by
      unfold Lib.bytesCells
      rw [Array.size_append, Array.size_map, Array.size_replicate]
      have : s.data.size = s.size := rfl
      omega
    refine ⟨w.heap.size, _, _, _, by rw [bytesI_len], hn, Lib.bytesWorld_at_new w 5 s, hsz, .inl (by show _ ≤ (Lib.bytesCells w 5 s).size; omega), by rw [bytesI_len]; exact hge, fun j u hu => ?_⟩
    rw [bytesI_cells] at hu
    obtain ⟨hj, hu'⟩ := List.getElem?_eq_some_iff.1 hu
    rw [Lib.strCells_length] at hj
    rw [Lib.bytesWorld_cell w 5 s j hj, ← hu']
    simp [Lib.strCells, List.getD, hj]
  · exact ⟨rfl, rfl, rfl, by rw [Lib.bytesWorld_size]; omega, fun k hk _ => Lib.bytesWorld_at_old w 5 s k hk⟩
theorem Fr.setCs {S : List Nat} {a W : World} (h : Fr S a W) (g o : Nat) (vs : List Value) (hg : g ∈ S ∨ a.heap.size ≤ g) : Fr S a (W.setCells g o vs) := by
  induction vs generalizing W o with
  | nil => exact h
  | cons v vs ih => rw [World.setCells]; exact ih (h.setCell ⟨g, o, none⟩ v hg) (o + 1)
theorem setCells_row (g : Nat) (t : TypeId) (fz : Nat × Nat) : ∀ (vs : List Value) (o : Nat) (w : World) (cur : Array Value), w.heap[g]? = some (.cells cur t fz) → ∃ cur', (w.setCells g o vs).heap[g]? = some (.cells cur' t fz) ∧ cur'.size = cur.size
  | [], _, _, cur, h => ⟨cur, h, rfl⟩
  | v :: r, o, w, cur, h => by
    have h1 : (w.setCell ⟨g, o, none⟩ v).heap[g]? = some (.cells (cur.setIfInBounds o v) t fz) := by simp [World.setCell, Array.getElem?_modify, h]
    obtain ⟨cur', h2, h3⟩ := setCells_row g t fz r (o + 1) _ _ h1
    exact ⟨cur', h2, by rw [h3, Array.size_setIfInBounds]⟩
section
variable {w : World} {n0 : Nat} {v : Value} {l : List Int}
/-- What there is behind the elements may be written. -/
theorem MkV.room (h : MkV w n0 v l) (news : List Value) (g c : Nat) (hv : v = .slice (some ⟨g, 0, none⟩) l.length c) (hr : l.length + news.length ≤ c) (h1 : ∀ u ∈ news, u.oneCell' = true) :
    (storeCells ⟨g, 0 + l.length, none⟩ news 0).run Tryz.prog w = .ok () (w.setCells g (0 + l.length + 0) news) ∧ ∀ (ns : List Int), news = Sc.u8s ns → MkV (w.setCells g (0 + l.length + 0) news) n0 (.slice (some ⟨g, 0, none⟩) (l.length + news.length) c) (l ++ ns) := by
  obtain ⟨g', cap, cur, fz, he, h2, h3, h4, h5, h6, h7⟩ := h
  rw [hv] at he
  obtain ⟨hg, -, hcap⟩ := Value.slice.inj he
  simp at hg
  subst hg hcap
  have hthere : ∀ j, j < news.length → (w.cell? ⟨g, l.length + j, none⟩).isSome = true := fun j hj => by
    have : l.length + j < cur.size := by omega
    simp [World.cell?, h3, this]
  refine ⟨run_storeCells_cells (P := Tryz.prog) g (0 + l.length) news 0 w (fun j hj => ?_) (fun j hj => ?_) h1, ?_⟩
  · rw [Nat.zero_add, Nat.add_zero]; exact hthere j hj
  · obtain ⟨lo, hi⟩ := fz
    simp only [World.frozen?, h3, Bool.and_eq_false_iff, decide_eq_false_iff_not]
    rcases h5 with h5 | h5
    · left; simp only at h5; omega
    · right; simp only at h5; omega
  · rintro ns rfl
    rw [Nat.zero_add, Nat.add_zero]
    obtain ⟨cur', q1, q2⟩ := setCells_row g 5 fz (Sc.u8s ns) l.length w cur h3
    refine ⟨g, c, cur', fz, by rw [List.length_append, u8s_len], h2, q1, by omega, h5, by rw [List.length_append, ← u8s_len ns]; exact hr, fun j u hu => ?_⟩
    have hu' : (Sc.u8s l ++ Sc.u8s ns)[j]? = some u := by rw [← hu]; simp [Sc.u8s]
    by_cases hj : j < l.length
    · rw [List.getElem?_append_left (by rw [u8s_len]; exact hj)] at hu'
      rw [World.cell?_setCells_out g _ _ _ _ (fun _ _ => .inl hj)]
      exact h7 j u hu'
    · rw [List.getElem?_append_right (by rw [u8s_len]; omega), u8s_len] at hu'
      obtain ⟨hk, hku⟩ := List.getElem?_eq_some_iff.1 hu'
      have := World.cell?_setCells_in g (Sc.u8s ns) l.length w hthere (j - l.length) hk
      rw [show l.length + (j - l.length) = j by omega, hku] at this
      exact this
theorem MkV.fresh (h : MkV w n0 v l) (hn : n0 ≤ w.heap.size) (ns : List Int) (k : Nat) (hk : l.length + ns.length ≤ k) (zs : Array Value) (hz : zs.size = k - (l.length + ns.length)) :
    MkV (w.drew.alloc (.cells ((Sc.u8s l).toArray ++ (Sc.u8s ns).toArray ++ zs) 5)) n0 (.slice (some ⟨w.heap.size, 0, none⟩) (l.length + ns.length) k) (l ++ ns) := by
  refine ⟨w.heap.size, k, _, (0, 0), by rw [List.length_append], hn, heap_alloc_new w.drew _, ?_, .inr rfl, by rw [List.length_append]; exact hk, fun j u hu => ?_⟩
  · simp only [Array.size_append, List.size_toArray, u8s_len]; omega
  · have hu' : (Sc.u8s l ++ Sc.u8s ns)[j]? = some u := by rw [← hu]; simp [Sc.u8s]
    have hj : j < (Sc.u8s l ++ Sc.u8s ns).length := (List.getElem?_eq_some_iff.1 hu').1
    have e : ((w.drew.alloc (.cells ((Sc.u8s l).toArray ++ (Sc.u8s ns).toArray ++ zs) 5)).heap[w.heap.size]?) = some (.cells ((Sc.u8s l).toArray ++ (Sc.u8s ns).toArray ++ zs) 5 (0, 0)) := heap_alloc_new w.drew _
    simp only [World.cell?, e]
    rw [Array.getElem?_append_left (by simpa using hj)]
    simpa using hu'
end
theorem u8s_one (ns : List Int) : ∀ u ∈ Sc.u8s ns, u.oneCell' = true := fun u hu => by
  obtain ⟨z, _, rfl⟩ := List.mem_map.1 hu
  rfl
section
variable {w : World} {n0 : Nat} {v : Value} {l : List Int}
/-- append of the elements of a slice. -/
theorem MkV.app (h : MkV w n0 v l) (hn : n0 ≤ w.heap.size) (ty : TypeId) (ad : Addr) (ns : List Int) (c' : Nat) (hc : ∀ j u, (Sc.u8s ns)[j]? = some u → w.cell? (ad.add j) = some u) (hb : l.length + ns.length ≤ 4294967296) :
    ∃ v' w', (Builtin.append_ #[62, 62] ty #[v, .slice (some ad) ns.length c']).run Tryz.prog w = .ok v' w' ∧ MkV w' n0 v' (l ++ ns) ∧ Fr v.ownBlock.toList w w' := by
  obtain ⟨i, hi, hz, hsz, hby⟩ := info_parts Sc.infoU8
  obtain ⟨g, c, rfl⟩ := h.form
  by_cases hr : l.length + ns.length ≤ c
  · obtain ⟨h1, h2⟩ := h.room (Sc.u8s ns) g c rfl (by rw [u8s_len]; exact hr) (u8s_one ns)
    have hf := run_firstCells_some (P := Tryz.prog) w 1 ns.length ad ns.length c' (Sc.u8s ns) (by rw [u8s_len, Nat.mul_one]) hc
    have h3 := h2 ns rfl
    rw [u8s_len] at h3
    refine ⟨_, _, ?_, h3, (Fr.refl _ w).setCs _ _ _ (.inl (by simp [Value.ownBlock]))⟩
    simp only [Nat.zero_add, Nat.add_zero] at h1 ⊢
    simp [Builtin.append_, run_underlying Tryz.underlying62, sizeOf, typeInfo, hi, hsz, Builtin.lenOf, hr, hf, Addr.add_lit, h1]
  · have hold : ∀ j u, (Sc.u8s l)[j]? = some u → w.cell? ((⟨g, 0, none⟩ : Addr).add j) = some u := fun j u hu => by
      obtain ⟨g', cap, cur, fz, he, _, _, _, _, _, h7⟩ := h
      obtain ⟨hg, -, -⟩ := Value.slice.inj he
      simp at hg
      subst hg
      rw [Addr.add_lit, Nat.zero_add]
      exact h7 j u hu
    have hrun := run_append_grow (P := Tryz.prog) w 62 ty 5 i (.int .u8 0) Tryz.underlying62 hi hz ⟨g, 0, none⟩ l.length c (Sc.u8s l) (by rw [u8s_len, hsz, Nat.mul_one]) hold ad ns.length c' (Sc.u8s ns) (by rw [u8s_len, hsz, Nat.mul_one]) hc (by omega) (by omega) (growslice_fits (by omega) (by rw [hby]; omega))
    refine ⟨_, _, hrun, h.fresh hn ns _ (grownCap_ge _ _ _ _) _ ?_, ((Fr.refl _ w).drew).alloc _⟩
    rw [size_zeroCells]
    show _ * 1 = _
    rw [Nat.mul_one]
/-- append of a text. -/
theorem MkV.appS (h : MkV w n0 v l) (hn : n0 ≤ w.heap.size) (ty : TypeId) (s : ByteArray) (hb : l.length + s.size ≤ 4294967296) :
    ∃ v' w', (Builtin.append_ #[62, 9] ty #[v, .string s]).run Tryz.prog w = .ok v' w' ∧ MkV w' n0 v' (l ++ bytesI s) ∧ Fr v.ownBlock.toList w w' := by
  obtain ⟨i, hi, hz, hsz, hby⟩ := info_parts Sc.infoU8
  obtain ⟨g, c, rfl⟩ := h.form
  by_cases hr : l.length + s.size ≤ c
  · obtain ⟨h1, h2⟩ := h.room (Lib.strCells s) g c rfl (by rw [Lib.strCells_length]; exact hr) (Lib.strCells_oneCell s)
    have hf := Lib.run_firstCells_string (P := Tryz.prog) w 1 s
    have h3 := h2 (bytesI s) (bytesI_cells s).symm
    rw [Lib.strCells_length] at h3
    refine ⟨_, _, ?_, h3, (Fr.refl _ w).setCs _ _ _ (.inl (by simp [Value.ownBlock]))⟩
    simp only [Nat.zero_add, Nat.add_zero] at h1 ⊢
    simp [Builtin.append_, run_underlying Tryz.underlying62, run_underlying Tryz.underlying9, sizeOf, typeInfo, hi, hsz, Builtin.lenOf, hr, hf, Addr.add_lit, h1]
  · have hold : ∀ j u, (Sc.u8s l)[j]? = some u → w.cell? ((⟨g, 0, none⟩ : Addr).add j) = some u := fun j u hu => by
      obtain ⟨g', cap, cur, fz, he, _, _, _, _, _, h7⟩ := h
      obtain ⟨hg, -, -⟩ := Value.slice.inj he
      simp at hg
      subst hg
      rw [Addr.add_lit, Nat.zero_add]
      exact h7 j u hu
    have hrun := Lib.run_append_grow_string (P := Tryz.prog) w 62 9 ty 5 i (.int .u8 0) Tryz.underlying62 Tryz.underlying9 hi hz ⟨g, 0, none⟩ l.length c (Sc.u8s l) (by rw [u8s_len, hsz, Nat.mul_one]) hold s (by omega) (by omega) (growslice_fits (by omega) (by rw [hby]; omega))
    have hfr := h.fresh hn (bytesI s) (grownCap w (l.length + s.size) c 5) (by rw [bytesI_len]; exact grownCap_ge _ _ _ _) (Builtin.zeroCells (Value.int .u8 0).cells (grownCap w (l.length + s.size) c 5 - (l.length + s.size))) (by rw [size_zeroCells, bytesI_len]; show _ * 1 = _; rw [Nat.mul_one])
    rw [bytesI_cells, bytesI_len] at hfr
    exact ⟨_, _, hrun, hfr, ((Fr.refl _ w).drew).alloc _⟩
theorem wpList_appM (h : MkV w n0 v l) (hn : n0 ≤ w.heap.size) {ops : Array Oper} {rest : List Oper} {o : Oper} {a : Act} {Q : Exit → Act → World → Prop}
    (hg : o.guard = none) (s x : Operand) (hop : o.op = Op.call { callee := Callee.builtin Builtin.append, args := #[s, x], argTypes := #[62, 62] }) (hs : a.eval s = v) (ad : Addr) (m c : Nat) (ns : List Int) (hx : a.eval x = .slice (some ad) m c) (hm : ns.length = m)
    (hc : ∀ j u, (Sc.u8s ns)[j]? = some u → w.cell? (ad.add j) = some u) (hb : l.length + m ≤ 4294967296)
    (hK : ∀ v' w', MkV w' n0 v' (l ++ ns) → Fr v.ownBlock.toList w w' → wpList Tryz.prog ops Q rest (a.put o.dst v') w') :
    wpList Tryz.prog ops Q (o :: rest) a w := by
  subst hm
  refine wpList_plain hg fun K hK' => ?_
  obtain ⟨v', w', hrun, r1, r2⟩ := h.app hn o.type ad ns c hc hb
  unfold Oper.wp execOp
  simp only [hop, resolve, invoke, builtin, Sem.run_bind, Sem.run_pure, Result.andThen_ok, List.map_toArray, List.map_cons, List.map_nil, hs, hx, hrun]
  exact hK' _ _ (hK v' w' r1 r2)
theorem wpList_appS (h : MkV w n0 v l) (hn : n0 ≤ w.heap.size) {ops : Array Oper} {rest : List Oper} {o : Oper} {a : Act} {Q : Exit → Act → World → Prop}
    (hg : o.guard = none) (s x : Operand) (hop : o.op = Op.call { callee := Callee.builtin Builtin.append, args := #[s, x], argTypes := #[62, 9] }) (hs : a.eval s = v) (t : ByteArray) (hx : a.eval x = .string t) (hb : l.length + t.size ≤ 4294967296)
    (hK : ∀ v' w', MkV w' n0 v' (l ++ bytesI t) → Fr v.ownBlock.toList w w' → wpList Tryz.prog ops Q rest (a.put o.dst v') w') :
    wpList Tryz.prog ops Q (o :: rest) a w := by
  refine wpList_plain hg fun K hK' => ?_
  obtain ⟨v', w', hrun, r1, r2⟩ := h.appS hn o.type t hb
  unfold Oper.wp execOp
  simp only [hop, resolve, invoke, builtin, Sem.run_bind, Sem.run_pure, Result.andThen_ok, List.map_toArray, List.map_cons, List.map_nil, hs, hx, hrun]
  exact hK' _ _ (hK v' w' r1 r2)
end
end Go.Proofs.YtbpgpjibljgiiaaGreatDoor
namespace Go.Proofs.YtbpgpjibljgiiaaGreatDoor
open Go.RowKit
set_option linter.unusedVariables false
set_option linter.unusedSimpArgs false
attribute [local go_sem] Oper.semAt_some
namespace Sc
theorem strOfNums_bytesI (s : ByteArray) : strOfNums (bytesI s) = s := by
  apply ByteArray.ext
  apply Array.toList_inj.1
  show ((bytesI s).map fun n => UInt8.ofNat n.toNat) = _
  unfold bytesI
  rw [List.map_map]
  refine (List.map_congr_left (g := id) fun b _ => ?_).trans (List.map_id _)
  show UInt8.ofNat ((b.toNat : Int)).toNat = b
  simp
theorem strOfNums_list (l : List Int) : (strOfNums l).data.toList = l.map fun n => UInt8.ofNat n.toNat := rfl
theorem strOfNums_app (a b : List Int) : (strOfNums (a ++ b)).data.toList = (strOfNums a).data.toList ++ (strOfNums b).data.toList := by
  rw [strOfNums_list, strOfNums_list, strOfNums_list, List.map_append]
theorem lineT_of {s : St} {B : ByteArray} (h : 1 ≤ s.kd ∧ s.kd ≤ 10) (hb : B.data.toList = (wrdB s.kd).1.data.toList ++ Lib.joinTail [32] ((tailL s).map (·.data.toList))) : lineT s = B := by
  apply ByteArray.ext
  apply Array.toList_inj.1
  rw [lineT_list h, hb]
theorem wrd_nn {k : Nat} (h : 5 ≤ k ∧ k ≤ 10) : (wrdB k).2 = ⟨#[78, 78]⟩ := by
  have hc : k = 5 ∨ k = 6 ∨ k = 7 ∨ k = 8 ∨ k = 9 ∨ k = 10 := by omega
  rcases hc with rfl | rfl | rfl | rfl | rfl | rfl <;> rfl
end Sc
end Go.Proofs.YtbpgpjibljgiiaaGreatDoor
namespace Go.Proofs.YtbpgpjibljgiiaaGreatDoor
open Go.RowKit
set_option linter.unusedVariables false
set_option linter.unusedSimpArgs false
attribute [local go_sem] Oper.semAt_some
namespace Sc
theorem BytV.pos {W : World} {n0 : Nat} {v : Value} {l : List Int} (h : BytV W n0 v l) (h0 : 0 < l.length) : ∃ g c, v = .slice (some ⟨g, 0, none⟩) l.length c ∧ ∀ j u, (u8s l)[j]? = some u → W.cell? ((⟨g, 0, none⟩ : Addr).add j) = some u := by
  rcases h.1.2 with ⟨_, h2⟩ | ⟨g, cap, cur, hv, _⟩
  · omega
  · exact ⟨g, cap, hv, h.1.cells (g := g) (by rw [hv]; rfl)⟩
end Sc
end Go.Proofs.YtbpgpjibljgiiaaGreatDoor
namespace Go.Proofs.YtbpgpjibljgiiaaGreatDoor
open Go.RowKit
set_option linter.unusedVariables false
set_option linter.unusedSimpArgs false
attribute [local go_sem] Oper.semAt_some
namespace Sc
end Sc
end Go.Proofs.YtbpgpjibljgiiaaGreatDoor
