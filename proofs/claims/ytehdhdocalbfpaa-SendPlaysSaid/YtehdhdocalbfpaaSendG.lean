/-
  What holds at the head of SendNumbers' loop; plain steps.
-/
import Derived.Test.YtehdhdocalbfpaaSendF
namespace Go.Proofs.Ytehdhdocalbfpaa
open Go.RowKit ring
set_option linter.unusedVariables false

theorem Snd.notin {W : World} {S : List Nat} {sb win tmo most acked : Nat} {L : List Ev} {A : List Int} (h : Snd W S sb win tmo most acked L A) {b : Nat} {c : Array Value} {t : TypeId} (hb : Blk W b c t) (h1 : t ≠ 71) (h2 : t ≠ 115) (h3 : t ≠ 56) (h4 : t ≠ 51) : b ∉ S := by
  obtain ⟨rb, g, Cs, f, atv, hS, hs, hr, ho⟩ := h.ex
  obtain ⟨p, r, hrb⟩ := hr.hd
  rw [hS]
  intro hm
  simp only [List.cons_append, List.nil_append, List.mem_cons, Option.mem_toList] at hm
  rcases hm with rfl | rfl | rfl | hm
  · exact h1 (hb.inj hs).2
  · exact h2 (hb.inj hrb).2
  · exact h3 (hb.inj hr.pl).2
  · exact own_ne ho hm hb (Ne.symm h4) rfl
theorem own_ev {w : World} {v : Value} {g cap : Nat} {O : List Ev} (h : w.ownsRow 0 56 8 v O.length (evs O)) (hv : v = .slice (some ⟨g, 0, none⟩) O.length cap) {k : Nat} {e : Ev} (hk : O[k]? = some e) : ev? w g (k * 8) = some e.val := by
  subst hv
  have hc : ∀ j u, e.cells[j]? = some u → w.cell? ⟨g, k * 8 + j, none⟩ = some u := fun j u hj => by
    have hj8 : j < 8 := by have := (List.getElem?_eq_some_iff.1 hj).1; simpa [Ev.cells] using this
    have := h.cells (g := g) rfl (k * 8 + j) u (by rw [evs_get O k j e hk hj8]; exact hj)
    rw [Addr.add_lit, Nat.zero_add] at this
    exact this
  have h0 := hc 0 _ rfl
  have h1 := hc 1 _ rfl
  have h2 := hc 2 _ rfl
  have h3 := hc 3 _ rfl
  have h4 := hc 4 _ rfl
  have h5 := hc 5 _ rfl
  have h6 := hc 6 _ rfl
  have h7 := hc 7 _ rfl
  rw [Nat.add_zero] at h0
  unfold ev?
  rw [h0, h1, h2, h3, h4, h5, h6, h7]
  rfl
/-- Eight cells of an argument. -/
theorem ev_of_cells {w : World} {g o : Nat} {e : Ev} (hc : ∀ j u, e.cells[j]? = some u → w.cell? ⟨g, o + j, none⟩ = some u) : ev? w g o = some e.val := by
  have h0 := hc 0 _ rfl
  have h1 := hc 1 _ rfl
  have h2 := hc 2 _ rfl
  have h3 := hc 3 _ rfl
  have h4 := hc 4 _ rfl
  have h5 := hc 5 _ rfl
  have h6 := hc 6 _ rfl
  have h7 := hc 7 _ rfl
  rw [Nat.add_zero] at h0
  unfold ev?
  rw [h0, h1, h2, h3, h4, h5, h6, h7]
  rfl
theorem ev_fr {w w' : World} {g o : Nat} {v : Value} (f : Fr [] w w') (h : ev? w g o = some v) : ev? w' g o = some v := by
  have hlt : g < w.heap.size := by
    unfold ev? at h
    split at h
    · rename_i a0 a1 a2 a3 a4 a5 a6 a7 h0 h1 h2 h3 h4 h5 h6 h7
      exact World.block_lt_of_cell? w _ h0
    · cases h
  rw [ev_of (fun i => f.cell (a := ⟨g, i, none⟩) hlt (by simp))]
  exact h

/-- The sender, what was offered, the start. -/
structure NAt (w wr : World) (S : List Nat) (sb xb : Nat) (cs : Array Value) (win tmo most acked : Nat) (L : List Ev) (A : List Int) (O : List Ev) (vo : Value) : Prop where
  snd : Snd wr S sb win tmo most acked L A
  sS : ∀ b ∈ S, w.heap.size ≤ b
  own : wr.ownsRow 0 56 8 vo O.length (evs O)
  oS : ∀ b ∈ vo.ownBlock.toList, w.heap.size ≤ b ∧ b ∉ S
  fr : Fr [] w wr
  xc : Blk wr xb cs 45
  xw : w.heap.size ≤ xb
section
variable {w wr w' : World} {S : List Nat} {sb xb : Nat} {cs : Array Value} {win tmo most acked : Nat} {L : List Ev} {A : List Int} {O : List Ev} {vo : Value}
theorem NAt.fr0 (h : NAt w wr S sb xb cs win tmo most acked L A O vo) (f : Fr [] wr w') : NAt w w' S sb xb cs win tmo most acked L A O vo :=
  ⟨h.snd.fr0 f, h.sS, own_fr h.own f (by simp), h.oS, h.fr.trans f (by simp), f.blk h.xc (by simp), h.xw⟩
theorem NAt.step (h : NAt w wr S sb xb cs win tmo most acked L A O vo) {acked' : Nat} {L' : List Ev} {A' : List Int} (hs : SndTo wr S w' sb win tmo most acked' L' A') : ∃ S', NAt w w' S' sb xb cs win tmo most acked' L' A' O vo := by
  obtain ⟨S', h1, h2, h3⟩ := hs
  have hx : xb ∉ S := h.snd.notin h.xc (by decide) (by decide) (by decide) (by decide)
  have hsz := h.fr.size
  refine ⟨S', h1, fun b hb => ?_, own_fr h.own h3 (fun g hg => (h.oS g (by simp [hg])).2), fun b hb => ⟨(h.oS b hb).1, fun hm => ?_⟩, h.fr.trans h3 (fun b hb => .inr (h.sS b hb)), h3.blk h.xc hx, h.xw⟩
  · rcases h2 b hb with h4 | h4
    · exact h.sS b h4
    · omega
  · have hlt : b < wr.heap.size := own_lt h.own (by simpa using hb)
    rcases h2 b hm with h4 | h4
    · exact (h.oS b hb).2 h4
    · omega
theorem NAt.app (h : NAt w wr S sb xb cs win tmo most acked L A O vo) {e : Ev} {v' : Value} (ha : Appended wr 56 8 vo (O.length + 1) (evs O ++ e.cells) v' w') : NAt w w' S sb xb cs win tmo most acked L A (O ++ [e]) v' := by
  have f := ha.fr
  have hx : xb ∉ vo.ownBlock.toList := own_notin h.own h.xc (by decide)
  have hsz := h.fr.size
  refine ⟨h.snd.fr f (fun b hb hm => (h.oS b hm).2 hb), h.sS, ?_, fun b hb => ?_, h.fr.trans f (fun b hb => .inr (h.oS b hb).1), f.blk h.xc hx, h.xw⟩
  · have h1 : evs (O ++ [e]) = evs O ++ e.cells := by simp [evs]
    have h2 := ha.own
    rw [h1, List.length_append]
    exact h2
  · rcases ha.place with hp | hp
    · rw [hp] at hb; exact h.oS b hb
    · rw [hp] at hb
      simp at hb
      subst hb
      exact ⟨hsz, fun hm => by have := h.snd.lt_size _ hm; omega⟩
theorem NAt.form (h : NAt w wr S sb xb cs win tmo most acked L A O vo) : ∃ p c, vo = .slice p O.length c := by
  rcases h.own.2 with ⟨rfl, h0⟩ | ⟨g, cap, cur, rfl, _⟩
  · exact ⟨none, 0, by rw [h0]⟩
  · exact ⟨_, cap, rfl⟩
theorem NAt.event (h : NAt w wr S sb xb cs win tmo most acked L A O vo) {k : Nat} {e : Ev} (hk : O[k]? = some e) : ∃ g c, vo = .slice (some ⟨g, 0, none⟩) O.length c ∧ ev? wr g (k * 8) = some e.val := by
  have hlt := (List.getElem?_eq_some_iff.1 hk).1
  rcases h.own.2 with ⟨rfl, h0⟩ | ⟨g, cap, cur, hv, _⟩
  · omega
  · exact ⟨g, cap, hv, own_ev h.own hv hk⟩
end

end Go.Proofs.Ytehdhdocalbfpaa
