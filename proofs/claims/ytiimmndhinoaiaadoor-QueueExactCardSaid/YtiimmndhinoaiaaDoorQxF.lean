/-
  QueueExact: what holds between two steps. Printed by genQx.py.
-/
import Derived.Test.YtiimmndhinoaiaaDoorQxE
namespace Go.Proofs.YtiimmndhinoaiaaDoor
open Go.RowKit Go.Shelf ring
set_option linter.unusedVariables false
set_option linter.unusedSimpArgs false
attribute [local go_sem] Oper.semAt_some
namespace Qu

/-- One of the two: its rings, their content. -/
structure Tr where
  b : Nat
  g : Nat
  c : Nat
  d : Nat
  r : Nat
  vr : Value
  V : List Int
  M : RM
def blks (t : Tr) : List Nat := [t.b, t.g, t.c, t.d, t.r]
def arr (l : List Nat) : Array Value := (l.map (fun b => Value.pointer (some ⟨b, 0, none⟩)) ++ List.replicate (2 - l.length) (Value.pointer none)).toArray
theorem arr_push {l : List Nat} (h : l.length < 2) (b : Nat) : (arr l).setIfInBounds l.length (.pointer (some ⟨b, 0, none⟩)) = arr (l ++ [b]) := by
  match l, h with
  | [], _ => rfl
  | [a], _ => rfl
theorem arr_at {l : List Nat} {i b : Nat} (h : l[i]? = some b) : (arr l)[i]? = some (.pointer (some ⟨b, 0, none⟩)) := by
  have hi := (List.getElem?_eq_some_iff.1 h).1
  unfold arr
  rw [List.getElem?_toArray, List.getElem?_append_left (by simpa using hi), List.getElem?_map, h]
  rfl
theorem arr_none {l : List Nat} (h : l.length < 2) : (arr l)[l.length]? = some (.pointer none) := by
  match l, h with
  | [], _ => rfl
  | [a], _ => rfl
structure SQ (w0 : World) (pa k : Nat) (l : List Tr) (W : World) : Prop where
  pA : Blk W pa (arr (l.map Tr.b)) 54
  qA : Blk W (pa + 1) (arr (l.map Tr.c)) 56
  rA : Blk W (pa + 2) (arr (l.map Tr.r)) 58
  tq : ∀ t ∈ l, TQ W t.b t.g t.c t.d t.r t.vr t.V t.M ∧ FineQ k t.V t.M ∧ ∀ x ∈ blks t, pa + 2 < x
  dj : l.Pairwise (fun t u => ∀ x ∈ blks t, x ∉ blks u)
  fr : Fr [] w0 W
  low : w0.heap.size ≤ pa
section
variable {w0 W W' : World} {pa k : Nat} {l : List Tr}
theorem SQ.fr0 (h : SQ w0 pa k l W) (f : Fr [] W W') : SQ w0 pa k l W' :=
  ⟨f.blk h.pA (by simp), f.blk h.qA (by simp), f.blk h.rA (by simp), fun t ht => ⟨(h.tq t ht).1.fr0 f, (h.tq t ht).2⟩, h.dj, h.fr.trans f (by simp), h.low⟩
/-- One more is made. -/
theorem SQ.push (h : SQ w0 pa k l W) (hl : l.length < 2) {t : Tr} (f : Fr [] W W') (ht : TQ W' t.b t.g t.c t.d t.r t.vr t.V t.M) (hf : FineQ k t.V t.M) (hn : ∀ x ∈ blks t, W.heap.size ≤ x) :
    SQ w0 pa k (l ++ [t]) (((W'.setCell ⟨pa + 2, l.length, none⟩ (.pointer (some ⟨t.r, 0, none⟩))).setCell ⟨pa, l.length, none⟩ (.pointer (some ⟨t.b, 0, none⟩))).setCell ⟨pa + 1, l.length, none⟩ (.pointer (some ⟨t.c, 0, none⟩))) := by
  have h1 := h.fr0 f
  have hp := h.pA.lt
  have hq := h.qA.lt
  have hr := h.rA.lt
  have ep : (arr (l.map Tr.b)).setIfInBounds l.length (.pointer (some ⟨t.b, 0, none⟩)) = arr ((l ++ [t]).map Tr.b) := by
    have := arr_push (l := l.map Tr.b) (by simpa using hl) t.b
    rw [List.length_map] at this
    rw [this, List.map_append]; rfl
  have eq : (arr (l.map Tr.c)).setIfInBounds l.length (.pointer (some ⟨t.c, 0, none⟩)) = arr ((l ++ [t]).map Tr.c) := by
    have := arr_push (l := l.map Tr.c) (by simpa using hl) t.c
    rw [List.length_map] at this
    rw [this, List.map_append]; rfl
  have er : (arr (l.map Tr.r)).setIfInBounds l.length (.pointer (some ⟨t.r, 0, none⟩)) = arr ((l ++ [t]).map Tr.r) := by
    have := arr_push (l := l.map Tr.r) (by simpa using hl) t.r
    rw [List.length_map] at this
    rw [this, List.map_append]; rfl
  have FF : Fr [pa, pa + 1, pa + 2] W' (((W'.setCell ⟨pa + 2, l.length, none⟩ (.pointer (some ⟨t.r, 0, none⟩))).setCell ⟨pa, l.length, none⟩ (.pointer (some ⟨t.b, 0, none⟩))).setCell ⟨pa + 1, l.length, none⟩ (.pointer (some ⟨t.c, 0, none⟩))) :=
    (((Fr.refl _ _).setCell _ _ (.inl (by simp))).setCell _ _ (.inl (by simp))).setCell _ _ (.inl (by simp))
  have hold : ∀ u ∈ l, ∀ x ∈ blks u, x < W.heap.size := fun u hu x hx => (h.tq u hu).1.lts x hx
  have htq : ∀ u : Tr, TQ W' u.b u.g u.c u.d u.r u.vr u.V u.M → (∀ x ∈ blks u, pa + 2 < x) → TQ (((W'.setCell ⟨pa + 2, l.length, none⟩ (.pointer (some ⟨t.r, 0, none⟩))).setCell ⟨pa, l.length, none⟩ (.pointer (some ⟨t.b, 0, none⟩))).setCell ⟨pa + 1, l.length, none⟩ (.pointer (some ⟨t.c, 0, none⟩))) u.b u.g u.c u.d u.r u.vr u.V u.M := fun u hu hx => by
    refine hu.fr FF (fun x hm hz => ?_) (fun j hj hz => ?_)
    · have := hx x hm
      simp at hz
      omega
    · obtain ⟨x, hb⟩ := own_blk hu.r.own j (by simp [hj])
      simp at hz
      rcases hz with rfl | rfl | rfl
      · exact hb.ne h1.pA (by decide) rfl
      · exact hb.ne h1.qA (by decide) rfl
      · exact hb.ne h1.rA (by decide) rfl
  refine ⟨?_, ?_, ?_, fun u hu => ?_, ?_, h1.fr.trans FF (fun x hx => .inr (by have := h.low; simp at hx; omega)), h.low⟩
  · rw [← ep]
    exact Blk.other (Blk.set (Blk.other h1.pA _ _ (show pa ≠ pa + 2 by omega)) _ _) _ _ (show pa ≠ pa + 1 by omega)
  · rw [← eq]
    exact Blk.set (Blk.other (Blk.other h1.qA _ _ (show pa + 1 ≠ pa + 2 by omega)) _ _ (show pa + 1 ≠ pa by omega)) _ _
  · rw [← er]
    exact Blk.other (Blk.other (Blk.set h1.rA _ _) _ _ (show pa + 2 ≠ pa by omega)) _ _ (show pa + 2 ≠ pa + 1 by omega)
  · rcases List.mem_append.1 hu with hu | hu
    · exact ⟨htq u (h1.tq u hu).1 (h.tq u hu).2.2, (h.tq u hu).2⟩
    · simp at hu
      subst hu
      have hx : ∀ x ∈ blks u, pa + 2 < x := fun x hx => by have := hn x hx; omega
      exact ⟨htq u ht hx, hf, hx⟩
  · refine List.pairwise_append.2 ⟨h.dj, List.pairwise_singleton _ _, fun u hu v hv x hx hm => ?_⟩
    simp at hv
    subst hv
    have := hold u hu x hx
    have := hn x hm
    omega
/-- One of them has made a step. -/
theorem SQ.step (h : SQ w0 pa k l W) {i : Nat} {t : Tr} (hi : l[i]? = some t) {V' : List Int} {M' : RM} (hq : QLeft W t.b t.g t.c t.d t.r t.vr V' M' W') (hf : FineQ (k + 1) V' M') :
    ∃ t', SQ w0 pa (k + 1) (l.set i t') W' ∧ Fr (blks t) W W' ∧ (∀ x ∈ blks t', x ∈ blks t ∨ W.heap.size ≤ x) ∧ t'.b = t.b ∧ t'.c = t.c ∧ t'.r = t.r := by
  obtain ⟨g', d', v', h1, h2, h3, h4, h5⟩ := hq
  have hil := (List.getElem?_eq_some_iff.1 hi).1
  have hget := (List.getElem?_eq_some_iff.1 hi).2
  have htm : t ∈ l := List.mem_of_getElem? hi
  have hF : Fr (blks t) W W' := h5
  have hpa := h.pA.lt
  have hqa := h.qA.lt
  have hra := h.rA.lt
  have hlo := (h.tq t htm).2.2
  have hnew : ∀ x ∈ blks ⟨t.b, g', t.c, d', t.r, v', V', M'⟩, x ∈ blks t ∨ W.heap.size ≤ x := fun x hx => by
    simp [blks] at hx
    rcases hx with rfl | rfl | rfl | rfl | rfl
    · exact .inl (by simp [blks])
    · rcases h2 with rfl | h2
      · exact .inl (by simp [blks])
      · exact .inr h2
    · exact .inl (by simp [blks])
    · rcases h3 with rfl | h3
      · exact .inl (by simp [blks])
      · exact .inr h3
    · exact .inl (by simp [blks])
  have eb : ∀ (f : Tr → Nat), f ⟨t.b, g', t.c, d', t.r, v', V', M'⟩ = f t → (l.set i ⟨t.b, g', t.c, d', t.r, v', V', M'⟩).map f = l.map f := fun f hft => by
    rw [List.map_set, hft]
    apply List.ext_getElem?
    intro j
    rw [List.getElem?_set]
    by_cases hj : i = j
    · subst hj
      rw [if_pos rfl, if_pos (by simpa using hil)]
      simp [hi]
    · rw [if_neg hj]
  refine ⟨⟨t.b, g', t.c, d', t.r, v', V', M'⟩, ⟨?_, ?_, ?_, fun u hu => ?_, ?_, h.fr.trans hF (fun x hx => .inr (by have := hlo x hx; have := h.low; omega)), h.low⟩, hF, hnew, rfl, rfl, rfl⟩
  · rw [eb Tr.b rfl]
    exact hF.blk h.pA (fun hm => by have := hlo _ hm; omega)
  · rw [eb Tr.c rfl]
    exact hF.blk h.qA (fun hm => by have := hlo _ hm; omega)
  · rw [eb Tr.r rfl]
    exact hF.blk h.rA (fun hm => by have := hlo _ hm; omega)
  · obtain ⟨j, hj⟩ := List.mem_iff_getElem?.1 hu
    rw [List.getElem?_set] at hj
    by_cases hji : i = j
    · rw [if_pos hji] at hj
      subst hji
      rw [if_pos hil] at hj
      cases hj
      exact ⟨h1, hf, fun x hx => by rcases hnew x hx with q | q; exact hlo x q; omega⟩
    · rw [if_neg hji] at hj
      have hum := List.mem_of_getElem? hj
      refine ⟨(h.tq u hum).1.fr hF (fun x hx hm => ?_) (fun m hm hz => ?_), (h.tq u hum).2.1.up, (h.tq u hum).2.2⟩
      · have hjl := (List.getElem?_eq_some_iff.1 hj).1
        rcases Nat.lt_or_ge i j with hlt | hge
        · have := List.pairwise_iff_getElem.1 h.dj i j hil hjl hlt
          rw [hget, (List.getElem?_eq_some_iff.1 hj).2] at this
          exact this x hm hx
        · have := List.pairwise_iff_getElem.1 h.dj j i hjl hil (by omega)
          rw [hget, (List.getElem?_eq_some_iff.1 hj).2] at this
          exact this x hx hm
      · obtain ⟨x, hb⟩ := own_blk (h.tq u hum).1.r.own m (by simp [hm])
        obtain ⟨⟨xb, tb⟩, ⟨xg, tg⟩, ⟨xc, tc⟩, ⟨xd, td⟩, ⟨xr, tr⟩, -⟩ := (h.tq t htm).1.tags
        simp [blks] at hz
        rcases hz with rfl | rfl | rfl | rfl | rfl
        · exact hb.ne tb (by decide) rfl
        · exact hb.ne tg (by decide) rfl
        · exact hb.ne tc (by decide) rfl
        · exact hb.ne td (by decide) rfl
        · exact hb.ne tr (by decide) rfl
  · refine List.pairwise_iff_getElem.2 fun a c ha hc hac x hx hm => ?_
    rw [List.length_set] at ha hc
    have hdj := List.pairwise_iff_getElem.1 h.dj
    rw [List.getElem_set] at hx hm
    have hlt : ∀ (j : Nat) (hj : j < l.length), ∀ y ∈ blks l[j], y < W.heap.size := fun j hj y hy => (h.tq _ (List.getElem_mem hj)).1.lts y hy
    by_cases e1 : i = a
    · rw [if_pos e1] at hx
      by_cases e2 : i = c
      · omega
      · rw [if_neg e2] at hm
        rcases hnew x hx with q | q
        · have := hdj i c hil hc (by omega) x (by rw [hget]; exact q)
          exact this hm
        · have := hlt c hc x hm; omega
    · rw [if_neg e1] at hx
      by_cases e2 : i = c
      · rw [if_pos e2] at hm
        rcases hnew x hm with q | q
        · have := hdj a i ha hil (by omega) x hx
          rw [hget] at this
          exact this q
        · have := hlt a ha x hx; omega
      · rw [if_neg e2] at hm
        exact hdj a c ha hc hac x hx hm
end
end Qu
end Go.Proofs.YtiimmndhinoaiaaDoor
