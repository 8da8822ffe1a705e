/-
  Tb, part 26 of 36: the texts KbI.
-/
import Derived.Test.YtgoolkgjcmdilaaDoorTb25
section
namespace Go.Proofs.YtgoolkgjcmdilaaDoor
open Go.RowKit Flo
set_option linter.unusedVariables false
set_option linter.unusedSimpArgs false
/-- A block of one of these types lies there. -/
def Typ (w : World) (T : List TypeId) (s : Nat) : Prop := ∃ c e, Blk w s c e ∧ e ∈ T
theorem Typ.ne {w : World} {T T' : List TypeId} {s s' : Nat} (h : Typ w T s) (h' : Typ w T' s') (hd : ∀ x ∈ T, x ∉ T') : s ≠ s' := by
  obtain ⟨c, e, hb, he⟩ := h
  obtain ⟨c', e', hb', he'⟩ := h'
  exact hb.ne hb' (fun q => hd e he (q ▸ he'))
theorem Typ.blk {w : World} {s : Nat} {c : Array Value} {e : TypeId} (h : Blk w s c e) : Typ w [e] s := ⟨c, e, h, by simp⟩
theorem Typ.own {w : World} {e : TypeId} {size k : Nat} {v : Value} {xs : List Value} (h : w.ownsRow 0 e size v k xs) {g : Nat} (hg : v.ownBlock = some g) : Typ w [e] g := by
  obtain ⟨c, hc⟩ := own_blk h g (by simp [hg])
  exact ⟨c, e, hc, by simp⟩
theorem Typ.mono {w : World} {T T' : List TypeId} {s : Nat} (h : Typ w T s) (hs : ∀ x ∈ T, x ∈ T') : Typ w T' s := by
  obtain ⟨c, e, hb, he⟩ := h
  exact ⟨c, e, hb, hs e he⟩
theorem TabO.typ {w : World} {b : Nat} {v : Value} {Os : List (Int × Nat)} {r : Int} (h : TabO w b v Os r) : ∀ s ∈ b :: v.ownBlock.toList, Typ w [212, 218] s := fun s hs => by
  rcases List.mem_cons.1 hs with rfl | hs
  · exact (Typ.blk h.hd).mono (by simp)
  · exact (Typ.own h.own (by simpa using hs)).mono (by simp)
theorem TabN.typ {w : World} {b : Nat} {v : Value} {Os : List (Int × Int)} {r : Int} (h : TabN w b v Os r) : ∀ s ∈ b :: v.ownBlock.toList, Typ w [215, 227] s := fun s hs => by
  rcases List.mem_cons.1 hs with rfl | hs
  · exact (Typ.blk h.hd).mono (by simp)
  · exact (Typ.own h.own (by simpa using hs)).mono (by simp)
theorem BitsAt.typ {w : World} {b : Nat} {v : Value} {B : List Bool} {ws : List Nat} (h : BitsAt w b v B ws) : ∀ s ∈ b :: v.ownBlock.toList, Typ w [90, 96] s := fun s hs => by
  rcases List.mem_cons.1 hs with rfl | hs
  · exact (Typ.blk h.hd).mono (by simp)
  · exact (Typ.own h.own (by simpa using hs)).mono (by simp)
theorem ObOk.typ {w : World} {rN : Nat} {c : OC} (h : ObOk w rN c) : ∀ s ∈ c.blks, Typ w [195, 90, 96] s := fun s hs => by
  obtain ⟨h1, ⟨ws, h2⟩, h3⟩ := h
  rcases List.mem_cons.1 hs with rfl | hs
  · exact (Typ.blk h1).mono (by simp)
  · exact (h2.typ s hs).mono (by simp)
/-- The blocks that are new. -/
def ext (N : List Nat) (n m : Nat) : List Nat := N ++ List.range' n (m - n)
theorem mem_ext {N : List Nat} {n m s : Nat} : s ∈ ext N n m ↔ s ∈ N ∨ (n ≤ s ∧ s < m) := by
  unfold ext
  rw [List.mem_append, List.mem_range'_1]
  constructor
  · rintro (h | h)
    · exact .inl h
    · exact .inr (by omega)
  · rintro (h | h)
    · exact .inl h
    · exact .inr (by omega)
theorem ext_low {w w' : World} {N : List Nat} (h : ∀ s ∈ N, s < w.heap.size) (hs : w.heap.size ≤ w'.heap.size) : ∀ s ∈ ext N w.heap.size w'.heap.size, s < w'.heap.size := fun s hm => by
  rcases mem_ext.1 hm with h1 | h1
  · exact Nat.lt_of_lt_of_le (h s h1) hs
  · exact h1.2
section
variable {w w' : World} {N : List Nat} {k bO bN bP rO rN : Nat} {v v' u u' vP : Value} {Fs : List (Int × Int)} {BP : List Bool} {Cs : List OC} {V : List VO}
theorem map_pair_ins {c : OC} (h : (Cs.map OC.pair).Pairwise (fun a b => a.1 < b.1)) (hn : hasId (Cs.map OC.pair) c.id = false) : insAt (Cs.map OC.pair) c.id c.x = (insK OC.id c Cs).map OC.pair := by
  rw [insAt_insK h c.x hn]
  exact insK_map OC.id (·.1) OC.pair (fun _ => rfl) c Cs
theorem ins_pair {R : OC → OC → Prop} {c : OC} (hs : ∀ a b, R a b → R b a) : ∀ {l : List OC}, l.Pairwise R → (∀ a ∈ l, R c a) → (insK OC.id c l).Pairwise R
  | [], _, _ => by simp [insK]
  | y :: l, h, hc => by
    obtain ⟨h1, h2⟩ := List.pairwise_cons.1 h
    unfold insK
    split
    · exact List.pairwise_cons.2 ⟨hc, h⟩
    · refine List.pairwise_cons.2 ⟨fun x hx => ?_, ins_pair hs h2 (fun a ha => hc a (by simp [ha]))⟩
      rcases insK_mem.1 hx with rfl | hx
      · exact hs _ _ (hc y (by simp))
      · exact h1 x hx
/-- An object more. -/
theorem KBL.put {c : OC} (h : KBL w N k bO bN bP v u vP rO rN Fs BP Cs) (hn : hasId (Cs.map OC.pair) c.id = false) (hO : TabO w' bO v' (insAt (Cs.map OC.pair) c.id c.x) rO) (hv : v'.ownBlock = v.ownBlock ∨ ∃ g, v'.ownBlock = some g ∧ w.heap.size ≤ g)
    (hc : ObOk w' rN c) (hb : ∀ i, c.B.getD i false = true → BP.getD i false = true) (n1 : w.heap.size ≤ c.x) (n2 : w.heap.size ≤ c.bB) (n3 : ∀ g, c.vB.ownBlock = some g → w.heap.size ≤ g) (f : Fr (bO :: v.ownBlock.toList) w w') :
    KBL w' (ext N w.heap.size w'.heap.size) k bO bN bP v' u vP rO rN Fs BP (insK OC.id c Cs) := by
  have tO := h.hO.typ
  have tk : Typ w [138] k := Typ.blk h.hd
  obtain ⟨wP, hP⟩ := h.hP
  have hup := h.hO.up
  have hlow := h.low
  have ol : ∀ s ∈ N, s < w.heap.size := h.low
  have hcN : ∀ a ∈ Cs, c.apart a := fun a ha => by
    have h1 := h.nC a ha
    refine ⟨fun e => ?_, fun e => ?_, fun g hg hg' => ?_⟩
    · have := ol _ (h1 a.x (by simp [OC.blks])); omega
    · have := ol _ (h1 a.bB (by simp [OC.blks])); omega
    · have := ol _ (h1 g (by simp [OC.blks, hg'])); have := n3 g hg; omega
  have hxl : ∀ s ∈ c.blks, w.heap.size ≤ s := fun s hs => by
    simp [OC.blks] at hs
    rcases hs with rfl | rfl | hs
    · exact n1
    · exact n2
    · exact n3 s hs
  refine ⟨h.hd.fr f (fun hm => (tk.ne (tO k hm) (by simp)) rfl), ?_, h.hN.fr f (fun hm => ((h.hN.typ bN (by simp)).ne (tO bN hm) (by simp)) rfl) (fun g hg hm => ((h.hN.typ g (by simp [hg])).ne (tO g hm) (by simp)) rfl),
    ⟨wP, hP.fr f (fun hm => ((hP.typ bP (by simp)).ne (tO bP hm) (by simp)) rfl) (fun g hg hm => ((hP.typ g (by simp [hg])).ne (tO g hm) (by simp)) rfl)⟩, h.lP, h.m0, h.mN, fun a ha => ?_, h.used, h.apart, h.pos, fun a ha => ?_, ins_pair (fun _ _ q => q.symm) h.sep hcN, fun a ha => ?_,
    mem_ext.2 (.inl h.nk), fun s hs => ?_, fun s hs => mem_ext.2 (.inl (h.nN s hs)), fun s hs => mem_ext.2 (.inl (h.nP s hs)), fun a ha s hs => ?_, ext_low h.low f.size⟩
  · rw [← map_pair_ins hup hn]; exact hO
  · rcases insK_mem.1 ha with rfl | ha
    · exact hc
    · exact (h.ob a ha).fr f (fun s hs hm => (((h.ob a ha).typ s hs).ne (tO s hm) (by simp)) rfl)
  · rcases insK_mem.1 ha with rfl | ha
    · exact hb
    · exact h.bits a ha
  · rcases insK_mem.1 ha with rfl | ha
    · refine ⟨fun e => ?_, fun g hg hg' => ?_⟩
      · have := ol _ (h.nP bP (by simp)); omega
      · have := ol _ (h.nP g (by simp [hg'])); have := n3 g hg; omega
    · exact h.sepP a ha
  · rcases List.mem_cons.1 hs with rfl | hs
    · exact mem_ext.2 (.inl (h.nO _ (by simp)))
    · have hg : v'.ownBlock = some s := by simpa using hs
      rcases hv with q | ⟨g, q, hq⟩
      · exact mem_ext.2 (.inl (h.nO s (by simp [← q, hg])))
      · rw [hg] at q
        cases q
        exact mem_ext.2 (.inr ⟨hq, own_lt hO.own hg⟩)
  · rcases insK_mem.1 ha with rfl | ha
    · refine mem_ext.2 (.inr ⟨hxl s hs, ?_⟩)
      obtain ⟨cc, e, hbk, _⟩ := hc.typ s hs
      exact hbk.lt
    · exact mem_ext.2 (.inl (h.nC a ha s hs))
/-- Another one in its place. -/
theorem KBL.set {S : List Nat} {c c' : OC} {r : Nat} (h : KBL w N k bO bN bP v u vP rO rN Fs BP Cs) (hr : Cs[r]? = some c) (e1 : c'.x = c.x) (e2 : c'.bB = c.bB) (e3 : c'.vB = c.vB) (e4 : c'.id = c.id) (hc : ObOk w' rN c') (hb : ∀ i, c'.B.getD i false = true → BP.getD i false = true)
    (hS : ∀ s ∈ S, s ∈ c.blks) (f : Fr S w w') : KBL w' N k bO bN bP v u vP rO rN Fs BP (Cs.set r c') := by
  have hcm := List.mem_of_getElem? hr
  have tC := (h.ob c hcm).typ
  have tS : ∀ s ∈ S, Typ w [195, 90, 96] s := fun s hs => tC s (hS s hs)
  have hrl := (List.getElem?_eq_some_iff.1 hr).1
  have hre := (List.getElem?_eq_some_iff.1 hr).2
  obtain ⟨wP, hP⟩ := h.hP
  have hbk : c'.blks = c.blks := by unfold OC.blks; rw [e1, e2, e3]
  have hmap : (Cs.set r c').map OC.pair = Cs.map OC.pair := by
    rw [List.map_set, show c'.pair = (Cs.map OC.pair)[r]'(by simpa using hrl) by simp [hre, OC.pair, e1, e4], List.set_getElem_self]
  have hmap3 : (Cs.set r c').map (fun c => (c.x, c.bB, c.vB)) = Cs.map (fun c => (c.x, c.bB, c.vB)) := by
    rw [List.map_set, show (c'.x, c'.bB, c'.vB) = (Cs.map (fun c => (c.x, c.bB, c.vB)))[r]'(by simpa using hrl) by simp [hre, e1, e2, e3], List.set_getElem_self]
  have hsep : (Cs.set r c').Pairwise OC.apart := by
    have h1 : (Cs.map (fun c => (c.x, c.bB, c.vB))).Pairwise (fun p q => p.1 ≠ q.1 ∧ p.2.1 ≠ q.2.1 ∧ ∀ g, p.2.2.ownBlock = some g → q.2.2.ownBlock ≠ some g) := by
      rw [List.pairwise_map]; exact h.sep
    rw [← hmap3, List.pairwise_map] at h1
    exact h1
  have hmem : ∀ a ∈ Cs.set r c', a = c' ∨ (a ∈ Cs ∧ a ≠ c) ∨ (a ∈ Cs ∧ a.x = c.x) := fun a ha => by
    rcases List.mem_or_eq_of_mem_set ha with q | q
    · by_cases he : a = c
      · exact .inr (.inr ⟨q, by rw [he]⟩)
      · exact .inr (.inl ⟨q, he⟩)
    · exact .inl q
  have hoth : ∀ a ∈ Cs.set r c', a ≠ c' → a ∈ Cs ∧ a ≠ c := fun a ha hne => by
    obtain ⟨i, hi⟩ := List.mem_iff_getElem?.1 ha
    rw [List.getElem?_set] at hi
    by_cases hri : r = i
    · rw [if_pos hri, if_pos hrl] at hi
      cases hi
      exact absurd rfl hne
    · rw [if_neg hri] at hi
      refine ⟨List.mem_of_getElem? hi, fun e => ?_⟩
      subst e
      obtain ⟨hi1, hi2⟩ := List.getElem?_eq_some_iff.1 hi
      rcases Nat.lt_or_gt_of_ne hri with h3 | h3
      · have := List.pairwise_iff_getElem.1 h.upC r i hrl hi1 h3
        rw [hre, hi2] at this
        omega
      · have := List.pairwise_iff_getElem.1 h.upC i r hi1 hrl h3
        rw [hre, hi2] at this
        omega
  have nS : ∀ {T : List TypeId} {s : Nat}, Typ w T s → (∀ x ∈ T, x ∉ ([195, 90, 96] : List TypeId)) → s ∉ S := fun ht hd hm => (ht.ne (tS _ hm) hd) rfl
  have hPS : ∀ s ∈ bP :: vP.ownBlock.toList, s ∉ c.blks := fun s hs hm => by
    have hsp := h.sepP c hcm
    simp [OC.blks] at hm
    rcases hm with rfl | rfl | hm
    · exact ((hP.typ _ hs).ne (Typ.blk (h.ob c hcm).1) (by simp)) rfl
    · rcases List.mem_cons.1 hs with q | q
      · exact hsp.1 q
      · obtain ⟨ws, hB⟩ := (h.ob c hcm).2.1
        exact ((Typ.own hP.own (by simpa using q)).ne (Typ.blk hB.hd) (by simp)) rfl
    · rcases List.mem_cons.1 hs with q | q
      · obtain ⟨ws, hB⟩ := (h.ob c hcm).2.1
        subst q
        exact ((Typ.own hB.own hm).ne (Typ.blk hP.hd) (by simp)) rfl
      · exact hsp.2 s hm (by simpa using q)
  refine ⟨h.hd.fr f (nS (Typ.blk h.hd) (by simp)), ?_, h.hN.fr f (nS (h.hN.typ bN (by simp)) (by simp)) (fun g hg => nS (h.hN.typ g (by simp [hg])) (by simp)), ⟨wP, hP.fr f (fun hm => hPS bP (by simp) (hS _ hm)) (fun g hg hm => hPS g (by simp [hg]) (hS _ hm))⟩, h.lP, h.m0, h.mN, fun a ha => ?_, h.used, h.apart, h.pos, fun a ha => ?_, hsep, fun a ha => ?_,
    h.nk, h.nO, h.nN, h.nP, fun a ha => ?_, fun s hs => Nat.lt_of_lt_of_le (h.low s hs) f.size⟩
  · rw [hmap]
    exact h.hO.fr f (nS (h.hO.typ bO (by simp)) (by simp)) (fun g hg => nS (h.hO.typ g (by simp [hg])) (by simp))
  · by_cases he : a = c'
    · rw [he]; exact hc
    · obtain ⟨h1, h2⟩ := hoth a ha he
      have hap := sep_mem h.sep h1 hcm h2
      refine (h.ob a h1).fr f (fun s hs hm => ?_)
      have hm' := hS s hm
      obtain ⟨ha1, ⟨wa, ha2⟩, _⟩ := h.ob a h1
      obtain ⟨hc1, ⟨wc, hc2⟩, _⟩ := h.ob c hcm
      simp [OC.blks] at hs hm'
      rcases hs with rfl | rfl | hs
      · rcases hm' with q | q | q
        · exact hap.1 q
        · exact ((Typ.blk ha1).ne (q ▸ Typ.blk hc2.hd) (by simp)) rfl
        · exact ((Typ.blk ha1).ne (Typ.own hc2.own q) (by simp)) rfl
      · rcases hm' with q | q | q
        · exact ((Typ.blk ha2.hd).ne (q ▸ Typ.blk hc1) (by simp)) rfl
        · exact hap.2.1 q
        · exact ((Typ.blk ha2.hd).ne (Typ.own hc2.own q) (by simp)) rfl
      · rcases hm' with q | q | q
        · exact ((Typ.own ha2.own hs).ne (q ▸ Typ.blk hc1) (by simp)) rfl
        · exact ((Typ.own ha2.own hs).ne (q ▸ Typ.blk hc2.hd) (by simp)) rfl
        · exact hap.2.2 s hs q
  · by_cases he : a = c'
    · rw [he]; exact hb
    · exact h.bits a (hoth a ha he).1
  · by_cases he : a = c'
    · rw [he, e2, e3]; exact h.sepP c hcm
    · exact h.sepP a (hoth a ha he).1
  · by_cases he : a = c'
    · rw [he, hbk]; exact h.nC c hcm
    · exact h.nC a (hoth a ha he).1
theorem map_erase {α β : Type} (f : α → β) : ∀ (l : List α) (r : Nat), (l.eraseIdx r).map f = (l.map f).eraseIdx r
  | [], r => by simp
  | a :: l, 0 => by simp
  | a :: l, r + 1 => by simp [map_erase f l r]
/-- One less. -/
theorem KBL.erase {r : Nat} (h : KBL w N k bO bN bP v u vP rO rN Fs BP Cs) (hO : TabO w' bO v' ((Cs.map OC.pair).eraseIdx r) rO) (hv : v'.ownBlock = v.ownBlock) (f : Fr (bO :: v.ownBlock.toList) w w') :
    KBL w' N k bO bN bP v' u vP rO rN Fs BP (Cs.eraseIdx r) := by
  have tO := h.hO.typ
  have tk : Typ w [138] k := Typ.blk h.hd
  obtain ⟨wP, hP⟩ := h.hP
  have hm : ∀ {a}, a ∈ Cs.eraseIdx r → a ∈ Cs := fun ha => List.mem_of_mem_eraseIdx ha
  refine ⟨h.hd.fr f (fun hm => (tk.ne (tO k hm) (by simp)) rfl), ?_, h.hN.fr f (fun hm => ((h.hN.typ bN (by simp)).ne (tO bN hm) (by simp)) rfl) (fun g hg hm => ((h.hN.typ g (by simp [hg])).ne (tO g hm) (by simp)) rfl),
    ⟨wP, hP.fr f (fun hm => ((hP.typ bP (by simp)).ne (tO bP hm) (by simp)) rfl) (fun g hg hm => ((hP.typ g (by simp [hg])).ne (tO g hm) (by simp)) rfl)⟩, h.lP, h.m0, h.mN, fun a ha => (h.ob a (hm ha)).fr f (fun s hs hm' => (((h.ob a (hm ha)).typ s hs).ne (tO s hm') (by simp)) rfl), h.used, h.apart, h.pos, fun a ha => h.bits a (hm ha), h.sep.sublist (List.eraseIdx_sublist _ _), fun a ha => h.sepP a (hm ha),
    h.nk, ?_, h.nN, h.nP, fun a ha => h.nC a (hm ha), fun s hs => Nat.lt_of_lt_of_le (h.low s hs) f.size⟩
  · rw [show (Cs.eraseIdx r).map OC.pair = (Cs.map OC.pair).eraseIdx r from map_erase _ _ _]
    exact hO
  · rw [hv]; exact h.nO
theorem addB_at {B : List Bool} {i : Nat} (hi : i < B.length) (hb : B.getD i false = false) : addB B (i : Int) = B.set i true := by
  unfold addB addA hasB
  rw [if_pos]
  · simp
  · simp [List.getD_eq_getElem?_getD] at hb ⊢
    exact ⟨hi, hb⟩
/-- A fence more. -/
theorem KBL.addF {f a : Int} {wP' : List Nat} (h : KBL w N k bO bN bP v u vP rO rN Fs BP Cs) (hn : hasId Fs f = false) (ha : FirstAt BP 0 false a) (ha0 : 0 ≤ a) (hN : TabN w' bN u' (insAt Fs f a) rN) (hP : BitsAt w' bP vP (addB BP a) wP') (hu : u'.ownBlock = u.ownBlock ∨ ∃ g, u'.ownBlock = some g ∧ w.heap.size ≤ g)
    (fr : Fr (bN :: (u.ownBlock.toList ++ vP.ownBlock.toList)) w w') (hV : Al2 (Kin Fs) Cs V) :
    KBL w' (ext N w.heap.size w'.heap.size) k bO bN bP v u' vP rO rN (insK (·.1) (f, a) Fs) (addB BP a) Cs ∧ Al2 (Kin (insK (·.1) (f, a) Fs)) Cs V := by
  obtain ⟨i, rfl, -, hi, hb, -⟩ : ∃ i : Nat, a = (i : Int) ∧ 0 ≤ i ∧ i < BP.length ∧ BP.getD i false = false ∧ True := by
    rcases ha with ⟨i, h1, h2, h3, h4, _⟩ | ⟨h1, _⟩
    · exact ⟨i, h1, h2, h3, h4, trivial⟩
    · omega
  have hset := addB_at hi hb
  have hup : Up Fs := h.hN.up
  rw [insAt_insK hup _ hn] at hN
  obtain ⟨wP, hP0⟩ := h.hP
  have tS : ∀ s ∈ bN :: (u.ownBlock.toList ++ vP.ownBlock.toList), Typ w [215, 227, 96] s := fun s hs => by
    rcases List.mem_cons.1 hs with rfl | hs
    · exact (h.hN.typ _ (by simp)).mono (by simp)
    · rcases List.mem_append.1 hs with hs | hs
      · exact (h.hN.typ s (by simp at hs ⊢; exact .inr hs)).mono (by simp)
      · exact (Typ.own hP0.own (by simpa using hs)).mono (by simp)
  have nS : ∀ {T : List TypeId} {s : Nat}, Typ w T s → (∀ x ∈ T, x ∉ ([215, 227, 96] : List TypeId)) → s ∉ bN :: (u.ownBlock.toList ++ vP.ownBlock.toList) := fun ht hd hm => (ht.ne (tS _ hm) hd) rfl
  have hlen : (addB BP (i : Int)).length = BP.length := by rw [hset]; simp
  have hnone : ∀ g, (g, (i : Int)) ∉ Fs := fun g hg => by
    have := (h.used i).2 ⟨g, hg⟩
    rw [hb] at this
    cases this
  have hcb : ∀ c ∈ Cs, c.B.getD i false = false := fun c hc => by
    cases hq : c.B.getD i false with
    | false => rfl
    | true => have := h.bits c hc i hq; rw [hb] at this; cases this
  refine ⟨⟨h.hd.fr fr (nS (Typ.blk h.hd) (by simp)), h.hO.fr fr (nS (h.hO.typ bO (by simp)) (by simp)) (fun g hg => nS (h.hO.typ g (by simp [hg])) (by simp)), hN, ⟨wP', hP⟩, by rw [hlen]; exact h.lP, h.m0, h.mN, fun c hc => ?_, fun j => ?_, fun x y p hx hy => ?_, fun p hp => ?_, fun c hc j hj => ?_, h.sep, h.sepP, mem_ext.2 (.inl h.nk), fun s hs => mem_ext.2 (.inl (h.nO s hs)), fun s hs => ?_, fun s hs => mem_ext.2 (.inl (h.nP s hs)), fun c hc s hs => mem_ext.2 (.inl (h.nC c hc s hs)), ext_low h.low fr.size⟩, ?_⟩
  · refine (h.ob c hc).fr fr (fun s hs hm => ?_)
    obtain ⟨h1, ⟨ws, h2⟩, _⟩ := h.ob c hc
    simp [OC.blks] at hs
    rcases hs with rfl | rfl | hs
    · exact nS (Typ.blk h1) (by simp) hm
    · exact nS (Typ.blk h2.hd) (by simp) hm
    · rcases List.mem_cons.1 hm with rfl | hm
      · exact ((Typ.own h2.own hs).ne (h.hN.typ _ (by simp)) (by simp)) rfl
      · rcases List.mem_append.1 hm with hm | hm
        · exact ((Typ.own h2.own hs).ne (h.hN.typ s (by simp at hm ⊢; exact .inr hm)) (by simp)) rfl
        · exact (h.sepP c hc).2 s hs (by simpa using hm)
  · rw [hset, getD_set _ _ _ _ hi]
    constructor
    · intro hj
      split at hj
      · rename_i hji
        exact ⟨f, insK_mem.2 (.inl (by rw [hji]))⟩
      · obtain ⟨g, hg⟩ := (h.used j).1 hj
        exact ⟨g, insK_mem.2 (.inr hg)⟩
    · rintro ⟨g, hg⟩
      rcases insK_mem.1 hg with hg | hg
      · have : (j : Int) = i := (Prod.mk.inj hg).2
        rw [if_pos (by omega)]
      · split
        · rfl
        · exact (h.used j).2 ⟨g, hg⟩
  · rcases insK_mem.1 hx with hx | hx <;> rcases insK_mem.1 hy with hy | hy
    · exact ((Prod.mk.inj hx).1.trans (Prod.mk.inj hy).1.symm)
    · have := (Prod.mk.inj hx).2
      subst this
      exact absurd hy (hnone y)
    · have := (Prod.mk.inj hy).2
      subst this
      exact absurd hx (hnone x)
    · exact h.apart x y p hx hy
  · rcases insK_mem.1 hp with rfl | hp
    · have := h.lP
      dsimp only
      omega
    · exact h.pos p hp
  · rw [hset, getD_set _ _ _ _ hi]
    split
    · rfl
    · exact h.bits c hc j hj
  · rcases List.mem_cons.1 hs with rfl | hs
    · exact mem_ext.2 (.inl (h.nN _ (by simp)))
    · have hg : u'.ownBlock = some s := by simpa using hs
      rcases hu with q | ⟨g, q, hq⟩
      · exact mem_ext.2 (.inl (h.nN s (by simp [← q, hg])))
      · rw [hg] at q
        cases q
        exact mem_ext.2 (.inr ⟨hq, own_lt hN.own hg⟩)
  · refine hV.mono fun c o hc ho hk => ⟨hk.id, hk.num, hk.t, hk.px, hk.py, hk.sp, ?_, hk.uid, hk.ut, hk.upx, hk.upy⟩
    rw [idsOf_ins (by simpa using hcb c hc)]
    exact hk.ids
theorem delB_at {B : List Bool} {i : Nat} (hi : i < B.length) : delB B (i : Int) = B.set i false := by
  unfold delB hasB
  by_cases hb : B.getD i false = true
  · rw [if_pos]
    · simp
    · simp [List.getD_eq_getElem?_getD] at hb ⊢
      exact hb
  · have hb' : B.getD i false = false := by cases hq : B.getD i false; rfl; exact absurd hq hb
    rw [if_neg]
    · have hBi : B[i] = false := by
        rw [List.getD_eq_getElem?_getD, List.getElem?_eq_getElem hi] at hb'
        simpa using hb'
      rw [show B.set i false = B.set i B[i] by rw [hBi], List.set_getElem_self]
    · simp [List.getD_eq_getElem?_getD] at hb' ⊢
      exact hb'
def OC.del (p : Int) (c : OC) : OC := { c with B := delB c.B p }
/-- A fence less. -/
theorem KBL.dropF {f p : Int} {r : Nat} (h : KBL w N k bO bN bP v u vP rO rN Fs BP Cs) (hr : Fs[r]? = some (f, p)) (hN : TabN w' bN u' (Fs.eraseIdx r) rN) (hu : u'.ownBlock = u.ownBlock) (hP : ∃ wP, BitsAt w' bP vP (delB BP p) wP) (hC : ∀ c ∈ Cs, ∃ ws, BitsAt w' c.bB c.vB (delB c.B p) ws)
    (fr : Fr ((bN :: u.ownBlock.toList) ++ vP.ownBlock.toList ++ rowsOf Cs) w w') (hV : Al2 (Kin Fs) Cs V) :
    KBL w' N k bO bN bP v u' vP rO rN (Fs.eraseIdx r) (delB BP p) (Cs.map (OC.del p)) ∧ Al2 (Kin (Fs.eraseIdx r)) (Cs.map (OC.del p)) (V.map (dropO f)) := by
  have hm := List.mem_of_getElem? hr
  have hpp := h.pos _ hm
  dsimp only at hpp
  obtain ⟨i, rfl⟩ : ∃ i : Nat, p = (i : Int) := ⟨p.toNat, by omega⟩
  have hi : i < BP.length := by have := h.lP; omega
  have hiC : ∀ c ∈ Cs, i < c.B.length := fun c hc => by have := (h.ob c hc).2.2; omega
  have hset := delB_at hi
  have hup : Up Fs := h.hN.up
  obtain ⟨wP, hP0⟩ := h.hP
  have tS : ∀ s ∈ (bN :: u.ownBlock.toList) ++ vP.ownBlock.toList ++ rowsOf Cs, Typ w [215, 227, 96] s := fun s hs => by
    rcases List.mem_append.1 hs with hs | hs
    · rcases List.mem_append.1 hs with hs | hs
      · exact (h.hN.typ s hs).mono (by simp)
      · exact (Typ.own hP0.own (by simpa using hs)).mono (by simp)
    · unfold rowsOf at hs
      obtain ⟨d, hd, hs⟩ := List.mem_flatMap.1 hs
      obtain ⟨ws, hD⟩ := (h.ob d hd).2.1
      exact (Typ.own hD.own (by simpa using hs)).mono (by simp)
  have nS : ∀ {T : List TypeId} {s : Nat}, Typ w T s → (∀ x ∈ T, x ∉ ([215, 227, 96] : List TypeId)) → s ∉ (bN :: u.ownBlock.toList) ++ vP.ownBlock.toList ++ rowsOf Cs := fun ht hd hm => (ht.ne (tS _ hm) hd) rfl
  have hmem : ∀ x ∈ Fs.eraseIdx r, x ∈ Fs := fun x hx => List.mem_of_mem_eraseIdx hx
  have hmc : ∀ {c'}, c' ∈ Cs.map (OC.del (i : Int)) → ∃ c ∈ Cs, c' = c.del (i : Int) := fun hc => by
    obtain ⟨c, hc2, rfl⟩ := List.mem_map.1 hc
    exact ⟨c, hc2, rfl⟩
  refine ⟨⟨h.hd.fr fr (nS (Typ.blk h.hd) (by simp)), ?_, hN, hP, by rw [delB_len]; exact h.lP, h.m0, h.mN, fun c' hc' => ?_, fun j => ?_, fun x y p hx hy => h.apart x y p (hmem _ hx) (hmem _ hy), fun q hq => h.pos q (hmem _ hq), fun c' hc' j hj => ?_, ?_, fun c' hc' => ?_, h.nk, h.nO, by rw [hu]; exact h.nN, h.nP, fun c' hc' => ?_, fun s hs => Nat.lt_of_lt_of_le (h.low s hs) fr.size⟩, ?_⟩
  · rw [List.map_map, show OC.pair ∘ OC.del (i : Int) = OC.pair from rfl]
    exact h.hO.fr fr (nS (h.hO.typ bO (by simp)) (by simp)) (fun g hg => nS (h.hO.typ g (by simp [hg])) (by simp))
  · obtain ⟨c, hc, rfl⟩ := hmc hc'
    exact ⟨fr.blk (h.ob c hc).1 (nS (Typ.blk (h.ob c hc).1) (by simp)), hC c hc, by unfold OC.del; dsimp only; rw [delB_len]; exact (h.ob c hc).2.2⟩
  · rw [hset, getD_set _ _ _ _ hi]
    constructor
    · intro hj
      split at hj
      · cases hj
      · rename_i hji
        obtain ⟨g, hg⟩ := (h.used j).1 hj
        refine ⟨g, (mem_erase_up hup hr _).2 ⟨hg, fun e => ?_⟩⟩
        dsimp only at e
        subst e
        have := up_same hup hg hm
        omega
    · rintro ⟨g, hg⟩
      have h1 := (mem_erase_up hup hr _).1 hg
      rw [if_neg]
      · exact (h.used j).2 ⟨g, h1.1⟩
      · intro e
        subst e
        exact h1.2 (h.apart _ _ _ h1.1 hm)
  · obtain ⟨c, hc, rfl⟩ := hmc hc'
    unfold OC.del at hj
    dsimp only at hj
    rw [delB_at (hiC c hc), getD_set _ _ _ _ (hiC c hc)] at hj
    rw [hset, getD_set _ _ _ _ hi]
    split at hj
    · cases hj
    · rename_i hji
      rw [if_neg hji]
      exact h.bits c hc j hj
  · rw [List.pairwise_map]; exact h.sep
  · obtain ⟨c, hc, rfl⟩ := hmc hc'
    exact h.sepP c hc
  · obtain ⟨c, hc, rfl⟩ := hmc hc'
    exact h.nC c hc
  · refine hV.map _ _ fun c o hc ho hk => ⟨hk.id, hk.num, hk.t, hk.px, hk.py, hk.sp, ?_, hk.uid, hk.ut, hk.upx, hk.upy⟩
    unfold OC.del dropO outL
    dsimp only
    rw [delB_at (hiC c hc), idsOf_drop hup h.apart (fun q hq => (h.pos q hq).1) hr (hiC c hc), hk.ids]
end
end Go.Proofs.YtgoolkgjcmdilaaDoor
end
