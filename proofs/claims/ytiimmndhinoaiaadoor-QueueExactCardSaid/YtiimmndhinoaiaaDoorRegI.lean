/-
  A drawn region within a round that changes memory; a region whose last operation alone changes it.
-/
import Derived.Test.YtiimmndhinoaiaaDoorInvIn
import Derived.Test.YtiimmndhinoaiaaDoorRegT
namespace Go.Proofs.YtiimmndhinoaiaaDoor
open Go.RowKit
set_option linter.unusedVariables false
set_option linter.unusedSimpArgs false

section
variable {P : Program} {Q : Exit → Act → World → Prop} {l : List Oper} {a0 a : Act} {vals : List (Option Value)} {Ψ : (Nat → Prop) → (Nat → Option Value) → World → Prop} {W : World} {p : Nat → Prop} {F : Fence} {n : Nat}
/-- **A region that draws its order and changes memory.** -/
theorem region_chg_in {id : Nat} {w : World} (hm : P.follows .mixedOrders = true) (hu : waitsFor l.toArray = true) (vals : List (Option Value)) (Ψ : (Nat → Prop) → (Nat → Option Value) → World → Prop) (N : Nat) (hN : a0.tmps.size = N) (hs : slotsOk l N = true) (ds : List (Nat × Tmp)) (hds : slots l = ds)
    (h0 : Ψ (fun _ => False) (fun t => a0.tmps[t]?) w.drew)
    (hstep : ∀ (p : Nat → Prop) (a : Act) (W : World) (i : Nat), i < l.length → ¬ p i → (∀ o, l.toArray[i]? = some o → ∀ e, e ∈ o.after → Region.binds .any e = true → p e.on) → RegC l a0 vals Ψ p a W →
      ∀ K : Act → World → Prop, SetsC l vals Ψ p i a K → wpOpIn F n P l.toArray Q i K a W)
    (hend : ∀ (vs : Nat → Value) (p : Nat → Prop) (W : World), (∀ i, i < l.length → p i) → Ψ p (fun t => (lay ds vs a0.tmps)[t]?) W → (∀ i d v, i < l.length → slotOf l i = some d → vals.getD i none = some v → vs i = v) → Q .normal { tmps := lay ds vs a0.tmps, defers := a0.defers } W) : (Code.region id l.toArray true).wpIn F n P Q a0 w := by
  refine region_inv_in2 hm hu (RegC l a0 vals Ψ) ?_ ?_ ?_
  · exact ⟨rfl, rfl, fun _ _ => rfl, fun i d v h => h.elim, h0, fun _ h => h.elim, fun _ h => h.elim⟩
  · intro p a W i hi hn hd h
    exact hstep p a W i hi hn hd h _ (fun v W' hv hΨ => h.step N hN hs hi hd hv hΨ)
  · intro p a W hp h
    obtain ⟨vs, h1, rfl⟩ := h.frame N hN hs hp
    have h2 := h.world
    rw [laid_lay hds] at h2 ⊢
    exact hend vs p W hp h2 h1
theorem op_doC_in {i : Nat} {o : Oper} {K : Act → World → Prop} (hi : l.toArray[i]? = some o) (hw : Region.wanted o (yielded l.toArray a.tmps) = true) (hK : SetsC l vals Ψ p i a K)
    (h : ∀ K' : Act → World → Prop, (∀ v W', (∀ u, vals.getD i none = some u → v = u) → Ψ (fun k => p k ∨ k = i) (fun t => (a.put o.dst v).tmps[t]?) W' → K' (a.put o.dst v) W') → o.wpIn F n P a W K' Q) : wpOpIn F n P l.toArray Q i K a W := by
  unfold wpOpIn
  rw [hi]
  simp only [hw, if_true]
  have hs : slotOf l i = o.dst := by
    unfold slotOf
    rw [show l[i]? = some o by simpa using hi]
    rfl
  refine h K fun v W' hv hΨ => ?_
  rw [← hs] at hΨ ⊢
  exact hK v W' hv hΨ
end
/-- Operation m alone changes memory, and it is the last. -/
structure OnceP (w0 : World) (m : Nat) (Post : World → Prop) (p : Nat → Prop) (f : Nat → Option Value) (W : World) : Prop where
  fr : ¬ p m → Fr [] w0 W
  dn : p m → (∀ i, i < m → p i) ∧ Post W
theorem OnceP.start {w0 : World} {m : Nat} {Post : World → Prop} {f : Nat → Option Value} : OnceP w0 m Post (fun _ => False) f w0.drew := ⟨fun _ => (Fr.refl _ _).drew, fun h => h.elim⟩
theorem OnceP.world {w0 W : World} {m i : Nat} {Post : World → Prop} {p : Nat → Prop} {f : Nat → Option Value} (h : OnceP w0 m Post p f W) (hi : i < m) (hn : ¬ p i) : Fr [] w0 W := h.fr fun q => hn ((h.dn q).1 i hi)
theorem OnceP.keep {w0 W W' : World} {m i : Nat} {Post : World → Prop} {p : Nat → Prop} {f g : Nat → Option Value} (h : OnceP w0 m Post p f W) (hi : i < m) (hn : ¬ p i) (hf : Fr [] W W') : OnceP w0 m Post (fun k => p k ∨ k = i) g W' :=
  ⟨fun q => (h.fr (fun a => q (.inl a))).trans hf (by simp), fun q => absurd ((h.dn (q.resolve_right (by omega))).1 i hi) hn⟩
theorem OnceP.last {w0 W' : World} {m : Nat} {Post : World → Prop} {p : Nat → Prop} {g : Nat → Option Value} (hall : ∀ i, i < m → p i) (hq : Post W') : OnceP w0 m Post (fun k => p k ∨ k = m) g W' :=
  ⟨fun q => absurd (.inr rfl) q, fun _ => ⟨fun i hi => .inl (hall i hi), hq⟩⟩
end Go.Proofs.YtiimmndhinoaiaaDoor
