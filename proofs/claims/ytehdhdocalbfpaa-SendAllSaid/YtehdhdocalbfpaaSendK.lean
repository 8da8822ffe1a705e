/-
  SendAll: the plain law of progress; no program in sight but a sender's way.
-/
import Derived.Test.YtehdhdocalbfpaaSendG
namespace Go.Proofs.Ytehdhdocalbfpaa
open Go.RowKit
set_option linter.unusedVariables false

theorem dif_in {a now : Int} (h0 : 0 ≤ a) (h1 : a ≤ now) (h2 : now < 4294967296) : wrap64 (wrap64 now - wrap64 a) = now - a := by
  rw [IntWalk.wrap64_in now (by omega), IntWalk.wrap64_in a (by omega), IntWalk.wrap64_in _ (by omega)]
/-- The clocks: in order, none ahead of now. -/
structure Clk (now : Int) (A : List Int) : Prop where
  so : A.Pairwise (· ≤ ·)
  le : ∀ a ∈ A, a ≤ now
  ge : ∀ a ∈ A, 0 ≤ a
/-- Between rounds: r of them are done. -/
structure OutI (tmo r : Nat) (now : Int) (acked : Nat) (L : List Ev) (A : List Int) : Prop where
  c : Clk now A
  em : A = [] → L = [] ∨ r = 0
  ne : ∀ a B, A = a :: B → now - a < tmo ∧ (r : Int) ≤ (acked * (tmo + 1) : Nat) + (now - a) + 1
/-- Within round r. -/
structure InnI (tmo r : Nat) (now : Int) (acked : Nat) (L : List Ev) (A : List Int) : Prop where
  c : Clk now A
  em : A = [] → L = [] ∨ r ≤ acked * (tmo + 1) + 1
  ne : ∀ a B, A = a :: B → now - a ≤ tmo ∧ (r : Int) ≤ (acked * (tmo + 1) : Nat) + (now - a) + 1
section
variable {tmo r acked win : Nat} {now : Int} {L : List Ev} {A : List Int}
theorem OutI.step (h : OutI tmo r now acked L A) (h0 : 0 ≤ now) : InnI tmo (r + 1) (now + 1) acked L A := by
  refine ⟨⟨h.c.so, fun a ha => by have := h.c.le a ha; omega, h.c.ge⟩, fun e => ?_, fun a B e => ?_⟩
  · rcases h.em e with h1 | h1
    · exact .inl h1
    · right; subst h1; omega
  · have := h.ne a B e
    omega
theorem way_none (h : wayOf win tmo L.length A now = none) (hw : 1 ≤ win) : (A = [] → L = []) ∧ (∀ a B, A = a :: B → ¬ (tmo : Int) ≤ wrap64 (wrap64 now - wrap64 a)) := by
  unfold wayOf at h
  split at h
  · simp at h
  · rename_i h1
    split at h
    · simp at h
    · rename_i h2
      refine ⟨fun e => ?_, fun a B e => ?_⟩
      · subst e
        rw [← List.length_eq_zero_iff]
        simp at h2
        omega
      · subst e
        intro h3
        exact h1 ⟨by simp, by simpa using h3⟩
theorem InnI.out (h : InnI tmo r now acked L A) (hy : wayOf win tmo L.length A now = none) (hw : 1 ≤ win) (hn : now < 4294967296) : OutI tmo r now acked L A := by
  obtain ⟨h1, h2⟩ := way_none hy hw
  refine ⟨h.c, fun e => .inl (h1 e), fun a B e => ?_⟩
  have h3 := h2 a B e
  have ha : a ∈ A := by rw [e]; simp
  rw [dif_in (h.c.ge a ha) (h.c.le a ha) hn] at h3
  have := h.ne a B e
  omega
theorem InnI.again (h : InnI tmo r now acked L A) (hy : wayOf win tmo L.length A now = some false) (hn : now < 4294967296) : InnI tmo r now (acked + 1) (L.drop 1) ((A.set 0 now).drop 1) := by
  have h0 := wayOf_again hy
  match A, h0, h with
  | a :: B, _, h =>
    have h1 := h.ne a B rfl
    have e1 : ((a :: B).set 0 now).drop 1 = B := by simp
    rw [e1]
    have hm : (acked + 1) * (tmo + 1) = acked * (tmo + 1) + (tmo + 1) := Nat.succ_mul _ _
    have hso := List.pairwise_cons.1 h.c.so
    refine ⟨⟨hso.2, fun b hb => h.c.le b (by simp [hb]), fun b hb => h.c.ge b (by simp [hb])⟩, fun e => ?_, fun b C e => ?_⟩
    · right; rw [hm]; omega
    · rw [hm]
      have hb : b ∈ B := by rw [e]; simp
      have := hso.1 b hb
      have := h.c.le b (by simp [hb])
      omega
theorem InnI.fresh0 (h : InnI tmo r now acked L []) (hL : L ≠ []) : InnI tmo r now (acked + 1) (L.drop 1) [] := by
  have hm : (acked + 1) * (tmo + 1) = acked * (tmo + 1) + (tmo + 1) := Nat.succ_mul _ _
  refine ⟨⟨by simp, by simp, by simp⟩, fun _ => ?_, fun a B e => by cases e⟩
  rcases h.em rfl with h1 | h1
  · exact absurd h1 hL
  · right; rw [hm]; omega
theorem InnI.fresh (h : InnI tmo r now acked L A) (hA : A ≠ []) (h0 : 0 ≤ now) : InnI tmo r now acked L (A ++ [now]) := by
  refine ⟨⟨?_, ?_, ?_⟩, fun e => by simp at e, fun a B e => ?_⟩
  · rw [List.pairwise_append]
    exact ⟨h.c.so, by simp, fun a ha b hb => by simp at hb; subst hb; exact h.c.le a ha⟩
  · intro a ha
    rw [List.mem_append] at ha
    rcases ha with ha | ha
    · exact h.c.le a ha
    · simp at ha; omega
  · intro a ha
    rw [List.mem_append] at ha
    rcases ha with ha | ha
    · exact h.c.ge a ha
    · simp at ha; omega
  · match A, hA, h, e with
    | a' :: B', _, h, e =>
      simp at e
      obtain ⟨rfl, _⟩ := e
      exact h.ne a' B' rfl
theorem OutI.start (hall : ∀ a ∈ A, a = now) (h0 : 0 ≤ now) (ht : 1 ≤ tmo) : OutI tmo 0 now 0 L A := by
  refine ⟨⟨?_, fun a ha => by rw [hall a ha]; omega, fun a ha => by rw [hall a ha]; exact h0⟩, fun _ => .inr rfl, fun a B e => ?_⟩
  · rw [List.pairwise_iff_getElem]
    intro i j hi hj hij
    rw [hall _ (List.getElem_mem hi), hall _ (List.getElem_mem hj)]
    omega
  · have := hall a (by rw [e]; simp)
    omega
theorem calls_way (hall : ∀ a ∈ A, a = now) (h0 : 0 ≤ now) (h1 : now < 4294967296) (ht : 1 ≤ tmo) (n : Nat) : wayOf win tmo n A now ≠ some false := by
  intro h
  have h2 := wayOf_again h
  unfold wayOf at h
  split at h
  · rename_i h3
    match A, h2, hall with
    | a :: B, _, hall =>
      have ha := hall a (by simp)
      have h4 := h3.2
      simp only [List.getD_cons_zero] at h4
      rw [ha, dif_in h0 (by omega) h1] at h4
      omega
  · split at h <;> simp at h
/-- After all rounds there is nothing left. -/
theorem OutI.done {n : Nat} (h : OutI tmo (n * (tmo + 1)) now acked L A) (hn : acked + L.length = n) : L = [] := by
  apply Classical.byContradiction
  intro hL
  have hl : 1 ≤ L.length := by
    rcases Nat.eq_zero_or_pos L.length with h1 | h1
    · exact absurd (List.length_eq_zero_iff.1 h1) hL
    · exact h1
  have hm : (acked + 1) * (tmo + 1) = acked * (tmo + 1) + (tmo + 1) := Nat.succ_mul _ _
  have hle : (acked + 1) * (tmo + 1) ≤ n * (tmo + 1) := Nat.mul_le_mul_right _ (by omega)
  rcases hA : A with _ | ⟨a, B⟩
  · rcases h.em hA with h1 | h1
    · exact hL h1
    · omega
  · have := h.ne a B hA
    omega
end
/-- How much a sender holds. -/
def szL (W : World) (sb : Nat) : Nat :=
  match W.cell? ⟨sb, 3, none⟩ with
  | some (.pointer (some a)) => (match W.cell? ⟨a.block, 3, none⟩ with | some (.int _ n) => n.toNat | _ => 0)
  | _ => 0
def szA (W : World) (sb : Nat) : Nat :=
  match W.cell? ⟨sb, 4, none⟩ with
  | some (.slice _ l _) => l
  | _ => 0
theorem Snd.szL {W : World} {S : List Nat} {sb win tmo most acked : Nat} {L : List Ev} {A : List Int} (h : Snd W S sb win tmo most acked L A) : szL W sb = L.length := by
  obtain ⟨rb, g, Cs, f, atv, hS, hb, hr, ho⟩ := h.ex
  obtain ⟨p, r, c0, c1, c2, c3, _⟩ := hr.cells
  unfold Go.Proofs.Ytehdhdocalbfpaa.szL
  rw [hb.at 3 (v := .pointer (some ⟨rb, 0, none⟩)) rfl]
  simp only [c3]
  simp
theorem Snd.szA {W : World} {S : List Nat} {sb win tmo most acked : Nat} {L : List Ev} {A : List Int} (h : Snd W S sb win tmo most acked L A) : szA W sb = A.length := by
  obtain ⟨rb, g, Cs, f, atv, hS, hb, hr, ho⟩ := h.ex
  obtain ⟨p, cap, hh, hcap, -⟩ := Rd.of_own ho
  unfold Go.Proofs.Ytehdhdocalbfpaa.szA
  rw [hb.at 4 (v := atv) rfl, hh, u32s_len]
/-- The sender, the start, the argument. -/
structure AAt (w wr : World) (S : List Nat) (sb xb yb : Nat) (cs cy : Array Value) (win tmo most acked : Nat) (L : List Ev) (A : List Int) : Prop where
  snd : Snd wr S sb win tmo most acked L A
  sS : ∀ b ∈ S, w.heap.size ≤ b
  fr : Fr [] w wr
  xc : Blk wr xb cs 45
  yc : Blk wr yb cy 74
section
variable {w wr w' : World} {S : List Nat} {sb xb yb : Nat} {cs cy : Array Value} {win tmo most acked : Nat} {L : List Ev} {A : List Int}
theorem AAt.fr0 (h : AAt w wr S sb xb yb cs cy win tmo most acked L A) (f : Fr [] wr w') : AAt w w' S sb xb yb cs cy win tmo most acked L A :=
  ⟨h.snd.fr0 f, h.sS, h.fr.trans f (by simp), f.blk h.xc (by simp), f.blk h.yc (by simp)⟩
theorem AAt.step (h : AAt w wr S sb xb yb cs cy win tmo most acked L A) {acked' : Nat} {L' : List Ev} {A' : List Int} (hs : SndTo wr S w' sb win tmo most acked' L' A') : ∃ S', AAt w w' S' sb xb yb cs cy win tmo most acked' L' A' := by
  obtain ⟨S', h1, h2, h3⟩ := hs
  have hx : xb ∉ S := h.snd.notin h.xc (by decide) (by decide) (by decide) (by decide)
  have hy : yb ∉ S := h.snd.notin h.yc (by decide) (by decide) (by decide) (by decide)
  have hsz := h.fr.size
  refine ⟨S', h1, fun b hb => ?_, h.fr.trans h3 (fun b hb => .inr (h.sS b hb)), h3.blk h.xc hx, h3.blk h.yc hy⟩
  rcases h2 b hb with h4 | h4
  · exact h.sS b h4
  · omega
end

end Go.Proofs.Ytehdhdocalbfpaa
