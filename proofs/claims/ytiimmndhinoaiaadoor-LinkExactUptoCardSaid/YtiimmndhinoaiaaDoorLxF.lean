/-
  LinkExact: what holds between two steps.
-/
import Derived.Test.YtiimmndhinoaiaaDoorLxE
namespace Go.Proofs.YtiimmndhinoaiaaDoor
open Go.RowKit Go.Shelf
set_option linter.unusedVariables false
set_option linter.unusedSimpArgs false
/-- An iterator that was taken, and what it is to tell. -/
structure KE where
  bl : Nat
  vx : Value
  V : List Int
  p : Option Addr
  c : Nat
def KE.w (κ : KE) : Value := .slice κ.p κ.V.length κ.c
def encKE (κ : KE) : List Value := [.func (.func 32) #[] #[.pointer (some ⟨κ.bl, 0, none⟩)], .slice κ.p κ.V.length κ.c]
theorem encKE_len (κ : KE) : (encKE κ).length = 2 := rfl
theorem encKE_one (κ : KE) : ∀ u ∈ encKE κ, u.oneCell' = true := by
  intro u hu
  simp [encKE] at hu
  rcases hu with rfl | rfl <;> rfl
structure KeOk (κ : KE) (W : World) : Prop where
  held : LnS.AllHeld κ.bl κ.vx (κ.V.map txt) W
  own : W.ownsRow 0 3 1 κ.w κ.V.length (ints κ.V)
  len : κ.V.length ≤ 64
  num : ∀ x ∈ κ.V, I64 x
def keb (κ : KE) : List Nat := κ.bl :: (κ.vx.ownBlock.toList ++ κ.w.ownBlock.toList)
section
variable {κ : KE} {W W' : World}
theorem KeOk.lt (h : KeOk κ W) : ∀ g ∈ keb κ, g < W.heap.size := fun g hg => by
  rcases List.mem_cons.1 hg with rfl | hg
  · exact h.held.1.lt
  · rcases List.mem_append.1 hg with hg | hg
    · exact own_lt h.held.2 (by simpa using hg)
    · exact own_lt h.own (by simpa using hg)
theorem KeOk.fr {S : List Nat} (h : KeOk κ W) (f : Fr S W W') (hs : ∀ g ∈ keb κ, g ∉ S) : KeOk κ W' :=
  ⟨h.held.fr f (hs _ (by simp [keb])) (fun g hg => hs g (by simp [keb, hg])), own_fr h.own f (fun g hg => hs g (by simp [keb, hg])), h.len, h.num⟩
theorem KeOk.tells (h : KeOk κ W) (hT : TB W) : Calls Tryd.prog 15 #[.agg #[.func (.func 32) #[] #[.pointer (some ⟨κ.bl, 0, none⟩)], .slice κ.p κ.V.length κ.c]] W fun e w' => e = .returned (.bool true) ∧ Fr [] W w' :=
  tells_any W κ.bl κ.vx κ.V κ.p κ.V.length κ.c h.held (by have := h.len; omega) h.num hT (RdF.of_own (by decide) h.own (by have := h.len; unfold maxLen; omega)) rfl
end
/-- Between two steps. -/
structure LI (w0 : World) (b r n i most : Nat) (vl vr lv : Value) (V : List Int) (B : Bk) (κs : List KE) (W : World) : Prop where
  lk : LK W b r vl vr V most B
  fine : Fine n i most V B
  fr : Fr [] w0 W
  row : W.ownsRow 0 46 2 lv κs.length (κs.flatMap encKE)
  low : w0.heap.size ≤ b ∧ w0.heap.size ≤ r ∧ (∀ g, vl.ownBlock = some g → w0.heap.size ≤ g) ∧ ∀ g, lv.ownBlock = some g → w0.heap.size ≤ g
  len : κs.length ≤ i
  kept : ∀ κ ∈ κs, KeOk κ W ∧ ∀ g ∈ keb κ, g ∉ b :: r :: vl.ownBlock.toList ∧ g ∉ lv.ownBlock.toList
section
variable {w0 W W1 W' : World} {b r n i most : Nat} {vl vr lv vl' vr' lv' : Value} {V V' : List Int} {B B' : Bk} {κs : List KE} {κ : KE}
theorem LI.grow (h : LI w0 b r n i most vl vr lv V B κs W) (f : Fr [] W W') : LI w0 b r n i most vl vr lv V B κs W' :=
  ⟨h.lk.fr0 f, h.fine, h.fr.trans f (by simp), own_fr h.row f (by simp), h.low, h.len, fun κ hκ => ⟨(h.kept κ hκ).1.fr f (by simp), (h.kept κ hκ).2⟩⟩
theorem LI.sep (h : LI w0 b r n i most vl vr lv V B κs W) : ∀ g, lv.ownBlock = some g → g ∉ b :: r :: vl.ownBlock.toList := fun g hg hm => by
  rcases List.mem_cons.1 hm with rfl | hm
  · exact own_notin h.row h.lk.l.1 (by decide) (by simp [hg])
  · rcases List.mem_cons.1 hm with rfl | hm
    · exact own_notin h.row h.lk.r.1 (by decide) (by simp [hg])
    · obtain ⟨c1, h1⟩ := own_blk h.row g (by simp [hg])
      obtain ⟨c2, h2⟩ := own_blk h.lk.l.2 g hm
      exact absurd (h1.inj h2).2 (by decide)
theorem LI.step (h : LI w0 b r n i most vl vr lv V B κs W) (lk : LK W' b r vl' vr' V' most B') (hf : Fine n (i + 1) most V' B') (m1 : Mv W vl vl') (f : Fr (b :: r :: vl.ownBlock.toList) W W') : LI w0 b r n (i + 1) most vl' vr' lv V' B' κs W' := by
  have h0 := h.fr.size
  refine ⟨lk, hf, h.fr.trans f (fun x hx => .inr ?_), own_fr h.row f h.sep, ⟨h.low.1, h.low.2.1, fun g hg => ?_, h.low.2.2.2⟩, by have := h.len; omega, fun κ hκ => ?_⟩
  · rcases List.mem_cons.1 hx with rfl | hx
    · exact h.low.1
    · rcases List.mem_cons.1 hx with rfl | hx
      · exact h.low.2.1
      · exact h.low.2.2.1 x (by simpa using hx)
  · rcases m1 g hg with q | q
    · exact h.low.2.2.1 g q
    · omega
  · obtain ⟨h1, h2⟩ := h.kept κ hκ
    refine ⟨h1.fr f (fun g hg => (h2 g hg).1), fun g hg => ⟨fun hm => ?_, (h2 g hg).2⟩⟩
    have h3 := (h2 g hg).1
    have h4 := h1.lt g hg
    rcases List.mem_cons.1 hm with q | hm
    · exact h3 (by simp [q])
    · rcases List.mem_cons.1 hm with q | hm
      · exact h3 (by simp [q])
      · rcases m1 g (by simpa using hm) with q | q
        · exact h3 (by simp [q])
        · omega
/-- One more iterator is kept. -/
theorem LI.more (h : LI w0 b r n i most vl vr lv V B κs W) (f1 : Fr [] W W1) (hk : KeOk κ W1) (hn : ∀ g ∈ keb κ, g ∉ b :: r :: vl.ownBlock.toList ∧ g ∉ lv.ownBlock.toList) (happ : Appended W1 46 2 lv (κs.length + 1) (κs.flatMap encKE ++ encKE κ) lv' W') :
    LK W' b r vl vr V most B ∧ Fr [] w0 W' ∧ W'.ownsRow 0 46 2 lv' (κs ++ [κ]).length ((κs ++ [κ]).flatMap encKE) ∧ (∀ g, lv'.ownBlock = some g → w0.heap.size ≤ g) ∧ ∀ κ' ∈ κs ++ [κ], KeOk κ' W' ∧ ∀ g ∈ keb κ', g ∉ b :: r :: vl.ownBlock.toList ∧ g ∉ lv'.ownBlock.toList := by
  have hg1 := h.grow f1
  have hfr := happ.fr
  have hnew : ∀ g, lv'.ownBlock = some g → (lv.ownBlock = some g) ∨ (g = W1.heap.size) := fun g hg => by
    rcases happ.place with q | q
    · exact .inl (q ▸ hg)
    · rw [q] at hg; cases hg; exact .inr rfl
  have hsep := hg1.sep
  have h0 := hg1.fr.size
  have hkeep : ∀ κ' : KE, KeOk κ' W1 → (∀ g ∈ keb κ', g ∉ b :: r :: vl.ownBlock.toList ∧ g ∉ lv.ownBlock.toList) → KeOk κ' W' ∧ ∀ g ∈ keb κ', g ∉ b :: r :: vl.ownBlock.toList ∧ g ∉ lv'.ownBlock.toList := fun κ' k1 k2 =>
    ⟨k1.fr hfr (fun g hg => (k2 g hg).2), fun g hg => ⟨(k2 g hg).1, fun hm => by
      rcases hnew g (by simpa using hm) with q | q
      · exact (k2 g hg).2 (by simp [q])
      · have := k1.lt g hg; omega⟩⟩
  refine ⟨⟨hg1.lk.l.fr hfr (fun hm => hsep b (by simpa using hm) (by simp)) (fun g hg hm => hsep g (by simpa using hm) (by simp [hg])), hg1.lk.r.fr hfr (fun hm => hsep r (by simpa using hm) (by simp)) (fun g hg hm => ?_)⟩, hg1.fr.trans hfr (fun x hx => .inr (h.low.2.2.2 x (by simpa using hx))), ?_, fun g hg => ?_, fun κ' hκ' => ?_⟩
  · obtain ⟨c1, h1⟩ := own_blk hg1.row g hm
    obtain ⟨c2, h2⟩ := own_blk hg1.lk.r.2 g (by simp [hg])
    exact absurd (h1.inj h2).2 (by decide)
  · rw [List.length_append, List.length_singleton, List.flatMap_append, show [κ].flatMap encKE = encKE κ by simp]
    exact happ.own
  · rcases hnew g hg with q | q
    · exact h.low.2.2.2 g q
    · omega
  · rcases List.mem_append.1 hκ' with q | q
    · exact hkeep κ' (hg1.kept κ' q).1 (hg1.kept κ' q).2
    · simp at q; subst q; exact hkeep κ' hk hn
end
end Go.Proofs.YtiimmndhinoaiaaDoor
