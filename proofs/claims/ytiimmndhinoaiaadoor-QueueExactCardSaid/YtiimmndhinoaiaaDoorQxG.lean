/-
  QueueExact: the iterators that were taken. Printed by genQx.py.
-/
import Derived.Test.YtiimmndhinoaiaaDoorQxF
namespace Go.Proofs.YtiimmndhinoaiaaDoor
open Go.RowKit Go.Shelf ring
set_option linter.unusedVariables false
set_option linter.unusedSimpArgs false
attribute [local go_sem] Oper.semAt_some
namespace Qu

theorem infoKQ : (Tryd.prog.info? 76).map (fun i => (i.zero, i.size, i.bytes)) = some (some (.agg #[.nilFunc, .slice none 0 0]), 2, 32) := by kernel_rfl
/-- An iterator that was taken, and what it is to tell. -/
structure KQ where
  bl : Nat
  vx : Value
  V : List Int
  p : Option Addr
  c : Nat
def KQ.w (κ : KQ) : Value := .slice κ.p κ.V.length κ.c
def encKQ (κ : KQ) : List Value := [.func (.func 50) #[] #[.pointer (some ⟨κ.bl, 0, none⟩)], .slice κ.p κ.V.length κ.c]
theorem encKQ_len (κ : KQ) : (encKQ κ).length = 2 := rfl
theorem encKQ_one (κ : KQ) : ∀ u ∈ encKQ κ, u.oneCell' = true := by
  intro u hu
  simp [encKQ] at hu
  rcases hu with rfl | rfl <;> rfl
structure KqOk (κ : KQ) (W : World) : Prop where
  held : RgS.AllHeld κ.bl κ.vx (κ.V.map qtx) W
  own : W.ownsRow 0 3 1 κ.w κ.V.length (ints κ.V)
  len : κ.V.length ≤ 65536
  num : ∀ x ∈ κ.V, I64 x
def kqb (κ : KQ) : List Nat := κ.bl :: (κ.vx.ownBlock.toList ++ κ.w.ownBlock.toList)
section
variable {κ : KQ} {W W' : World}
theorem KqOk.lt (h : KqOk κ W) : ∀ g ∈ kqb κ, g < W.heap.size := fun g hg => by
  rcases List.mem_cons.1 hg with rfl | hg
  · exact h.held.1.lt
  · rcases List.mem_append.1 hg with hg | hg
    · exact own_lt h.held.2 (by simpa using hg)
    · exact own_lt h.own (by simpa using hg)
theorem KqOk.fr {S : List Nat} (h : KqOk κ W) (f : Fr S W W') (hs : ∀ g ∈ kqb κ, g ∉ S) : KqOk κ W' :=
  ⟨h.held.fr f (hs _ (by simp [kqb])) (fun g hg => hs g (by simp [kqb, hg])), own_fr h.own f (fun g hg => hs g (by simp [kqb, hg])), h.len, h.num⟩
theorem KqOk.tells (h : KqOk κ W) (hT : TB W) : Calls Tryd.prog 25 #[.agg #[.func (.func 50) #[] #[.pointer (some ⟨κ.bl, 0, none⟩)], .slice κ.p κ.V.length κ.c]] W fun e w' => e = .returned (.bool true) ∧ Fr [] W w' :=
  tells_any W κ.bl κ.vx κ.V κ.p κ.V.length κ.c h.held h.len h.num hT (RdF.of_own (by decide) h.own (by have := h.len; unfold maxLen; omega)) rfl
/-- No block of it is a list of iterators. -/
theorem KqOk.tag76 (h : KqOk κ W) {e : TypeId} {x : Array Value} {g : Nat} (hb : Blk W g x 76) : g ∉ kqb κ := fun hm => by
  rcases List.mem_cons.1 hm with rfl | hm
  · exact hb.ne h.held.1 (by decide) rfl
  · rcases List.mem_append.1 hm with hm | hm
    · obtain ⟨y, hy⟩ := own_blk h.held.2 g hm
      exact hb.ne hy (by decide) rfl
    · obtain ⟨y, hy⟩ := own_blk h.own g hm
      exact hb.ne hy (by decide) rfl
end
/-- Between two steps. -/
structure QI (w0 : World) (pa k : Nat) (l : List Tr) (lv : Value) (κs : List KQ) (W : World) : Prop where
  s : SQ w0 pa k l W
  row : W.ownsRow 0 76 2 lv κs.length (κs.flatMap encKQ)
  low : ∀ g, lv.ownBlock = some g → pa + 2 < g
  len : κs.length ≤ k
  kept : ∀ κ ∈ κs, KqOk κ W ∧ ∀ x ∈ kqb κ, ∀ t ∈ l, x ∉ blks t
section
variable {w0 W W1 W' : World} {pa k : Nat} {l : List Tr} {lv lv' : Value} {κs : List KQ} {κ : KQ}
theorem QI.fr0 (h : QI w0 pa k l lv κs W) (f : Fr [] W W') : QI w0 pa k l lv κs W' :=
  ⟨h.s.fr0 f, own_fr h.row f (by simp), h.low, h.len, fun κ hκ => ⟨(h.kept κ hκ).1.fr f (by simp), (h.kept κ hκ).2⟩⟩
theorem QI.rowtag (h : QI w0 pa k l lv κs W) {t : Tr} (ht : t ∈ l) : ∀ g, lv.ownBlock = some g → g ∉ blks t := fun g hg hm => by
  obtain ⟨x, hb⟩ := own_blk h.row g (by simp [hg])
  obtain ⟨⟨xb, tb⟩, ⟨xg, tg⟩, ⟨xc, tc⟩, ⟨xd, td⟩, ⟨xr, tr⟩, -⟩ := (h.s.tq t ht).1.tags
  simp [blks] at hm
  rcases hm with rfl | rfl | rfl | rfl | rfl
  · exact hb.ne tb (by decide) rfl
  · exact hb.ne tg (by decide) rfl
  · exact hb.ne tc (by decide) rfl
  · exact hb.ne td (by decide) rfl
  · exact hb.ne tr (by decide) rfl
/-- A step, with one more iterator or none. -/
theorem QI.step (hs : SQ w0 pa k l W) (hrow : W.ownsRow 0 76 2 lv κs.length (κs.flatMap encKQ)) (hlow : ∀ g, lv.ownBlock = some g → pa + 2 < g) (hlen : κs.length ≤ k + 1) (hkept : ∀ κ ∈ κs, KqOk κ W ∧ ∀ x ∈ kqb κ, ∀ t ∈ l, x ∉ blks t)
    {i : Nat} {t : Tr} (hi : l[i]? = some t) {V' : List Int} {M' : RM} (hq : QLeft W t.b t.g t.c t.d t.r t.vr V' M' W') (hf : FineQ (k + 1) V' M') :
    ∃ t', QI w0 pa (k + 1) (l.set i t') lv κs W' ∧ t'.b = t.b ∧ t'.c = t.c ∧ t'.r = t.r := by
  obtain ⟨t', h1, h2, h3, e1, e2, e3⟩ := hs.step hi hq hf
  have htm : t ∈ l := List.mem_of_getElem? hi
  have hrt : ∀ g, lv.ownBlock = some g → g ∉ blks t := fun g hg hm => by
    obtain ⟨x, hb⟩ := own_blk hrow g (by simp [hg])
    obtain ⟨⟨xb, tb⟩, ⟨xg, tg⟩, ⟨xc, tc⟩, ⟨xd, td⟩, ⟨xr, tr⟩, -⟩ := (hs.tq t htm).1.tags
    simp [blks] at hm
    rcases hm with rfl | rfl | rfl | rfl | rfl
    · exact hb.ne tb (by decide) rfl
    · exact hb.ne tg (by decide) rfl
    · exact hb.ne tc (by decide) rfl
    · exact hb.ne td (by decide) rfl
    · exact hb.ne tr (by decide) rfl
  refine ⟨t', ⟨h1, own_fr hrow h2 hrt, hlow, hlen, fun κ hκ => ?_⟩, e1, e2, e3⟩
  obtain ⟨k1, k2⟩ := hkept κ hκ
  refine ⟨k1.fr h2 (fun g hg => k2 g hg t htm), fun x hx u hu hm => ?_⟩
  obtain ⟨j, hj⟩ := List.mem_iff_getElem?.1 hu
  rw [List.getElem?_set] at hj
  by_cases hji : i = j
  · rw [if_pos hji] at hj
    subst hji
    rw [if_pos (List.getElem?_eq_some_iff.1 hi).1] at hj
    cases hj
    rcases h3 x hm with q | q
    · exact k2 x hx t htm q
    · have := k1.lt x hx; omega
  · rw [if_neg hji] at hj
    exact k2 x hx u (List.mem_of_getElem? hj) hm
/-- One more iterator is kept. -/
theorem QI.more (h : QI w0 pa k l lv κs W) (f1 : Fr [] W W1) (hk : KqOk κ W1) (hn : ∀ x ∈ kqb κ, ∀ t ∈ l, x ∉ blks t) (happ : Appended W1 76 2 lv (κs.length + 1) (κs.flatMap encKQ ++ encKQ κ) lv' W') :
    SQ w0 pa k l W' ∧ W'.ownsRow 0 76 2 lv' (κs ++ [κ]).length ((κs ++ [κ]).flatMap encKQ) ∧ (∀ g, lv'.ownBlock = some g → pa + 2 < g) ∧ (∀ κ' ∈ κs ++ [κ], KqOk κ' W' ∧ ∀ x ∈ kqb κ', ∀ t ∈ l, x ∉ blks t) := by
  have hg1 := h.fr0 f1
  have hfr := happ.fr
  have hown : ∀ g, g ∈ lv.ownBlock.toList → ∃ x, Blk W1 g x 76 := fun g hg => own_blk hg1.row g hg
  have hp2 := hg1.s.rA.lt
  have htq : ∀ t ∈ l, TQ W' t.b t.g t.c t.d t.r t.vr t.V t.M := fun t ht => (hg1.s.tq t ht).1.fr hfr (fun x hx hm => hg1.rowtag ht x (by simpa using hm) hx) (fun j hj hm => by
    obtain ⟨x, hb⟩ := hown j hm
    obtain ⟨y, hy⟩ := own_blk (hg1.s.tq t ht).1.r.own j (by simp [hj])
    exact hb.ne hy (by decide) rfl)
  have hlv : ∀ g ∈ lv.ownBlock.toList, pa + 2 < g := fun g hg => h.low g (by simpa using hg)
  refine ⟨⟨hfr.blk hg1.s.pA (fun hm => by have := hlv _ hm; omega), hfr.blk hg1.s.qA (fun hm => by have := hlv _ hm; omega), hfr.blk hg1.s.rA (fun hm => by have := hlv _ hm; omega), fun t ht => ⟨htq t ht, (h.s.tq t ht).2⟩, h.s.dj, hg1.s.fr.trans hfr (fun x hx => .inr (by have := hlv x hx; have := h.s.low; omega)), h.s.low⟩, ?_, fun g hg => ?_, fun κ' hκ' => ?_⟩
  · rw [List.length_append, List.length_singleton, List.flatMap_append, show [κ].flatMap encKQ = encKQ κ by simp]
    exact happ.own
  · rcases happ.place with q | q
    · exact h.low g (by rw [← q]; exact hg)
    · rw [q] at hg; cases hg; exact hp2
  · have hkeep : ∀ κ' : KQ, KqOk κ' W1 → KqOk κ' W' := fun κ' k1 => k1.fr hfr (fun g hg hm => by
      obtain ⟨x, hb⟩ := hown g hm
      exact k1.tag76 (e := 76) hb hg)
    rcases List.mem_append.1 hκ' with q | q
    · exact ⟨hkeep κ' (hg1.kept κ' q).1, (hg1.kept κ' q).2⟩
    · simp at q
      subst q
      exact ⟨hkeep _ hk, hn⟩
/-- What an iterator that was just taken stands on. -/
theorem QI.fresh {kb : Nat} {vx : Value} (h : QI w0 pa k l lv κs W) {t : Tr} (ht : t ∈ l) {p : Option Addr} {c : Nat} (hvr : t.vr = .slice p t.V.length c) (f1 : Fr [] W W1) (hh : RgS.AllHeld kb vx (t.V.map qtx) W1) (h1 : W.heap.size ≤ kb) (h2 : ∀ g, vx.ownBlock = some g → W.heap.size ≤ g) :
    KqOk ⟨kb, vx, t.V, p, c⟩ W1 ∧ ∀ x ∈ kqb ⟨kb, vx, t.V, p, c⟩, ∀ u ∈ l, x ∉ blks u := by
  have hq := (h.s.tq t ht).1
  have hp2 := h.s.rA.lt
  have hbig : ∀ x, W.heap.size ≤ x → ∀ u ∈ l, x ∉ blks u := fun x hx u hu hm => by have := (h.s.tq u hu).1.lts x hm; omega
  refine ⟨⟨hh, by have := own_fr hq.r.own f1 (by simp); rw [hvr] at this; exact this, by have := hq.len; show t.V.length ≤ 65536; omega, (h.s.tq t ht).2.1.num⟩, fun x hx => ?_⟩
  rcases List.mem_cons.1 hx with rfl | hx
  · exact hbig _ h1
  · rcases List.mem_append.1 hx with hx | hx
    · exact hbig x (h2 x (by simpa using hx))
    · have hx' : x ∈ t.vr.ownBlock.toList := by rw [hvr]; exact hx
      intro u hu hm
      obtain ⟨y, hb⟩ := own_blk hq.r.own x hx'
      obtain ⟨⟨xb, tb⟩, ⟨xg, tg⟩, ⟨xc, tc⟩, ⟨xd, td⟩, ⟨xr, tr⟩, -⟩ := (h.s.tq u hu).1.tags
      simp [blks] at hm
      rcases hm with rfl | rfl | rfl | rfl | rfl
      · exact hb.ne tb (by decide) rfl
      · exact hb.ne tg (by decide) rfl
      · exact hb.ne tc (by decide) rfl
      · exact hb.ne td (by decide) rfl
      · exact hb.ne tr (by decide) rfl
end
end Qu
end Go.Proofs.YtiimmndhinoaiaaDoor
