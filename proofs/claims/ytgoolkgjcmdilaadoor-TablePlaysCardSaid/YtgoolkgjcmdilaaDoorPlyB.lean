/-
  TablePlays: what memory is between two steps.
-/
import Derived.Test.YtgoolkgjcmdilaaDoorNonB
import Derived.Test.YtgoolkgjcmdilaaDoorRegT
namespace Go.Proofs.YtgoolkgjcmdilaaDoor
open Go.RowKit
set_option linter.unusedVariables false
set_option linter.unusedSimpArgs false

theorem done_any (w : World) (b c : Nat) (v u : Value) (R : IPs) (room : Int) (x : Stp) (h : PT b c v u R room w) (hi : U32 x.id) :
    Calls Tryd.prog 21 #[.pointer (some ⟨b, 0, none⟩), .pointer (some ⟨c, 0, none⟩), x.val'] w (DonePost w b c v u (stepR R room x) room) := by
  obtain ⟨d, oth, id, val, all⟩ := x
  unfold stepR Stp.val'
  dsimp only at hi ⊢
  by_cases h0 : d = 0
  · subst h0; rw [if_pos rfl]; exact done_put w b c v u R room id val oth all h hi
  · rw [if_neg h0]
    by_cases h2 : d = 2
    · subst h2; rw [if_pos rfl]; exact done_del w b c v u R room id val oth all h hi
    · rw [if_neg h2]
      by_cases h1 : d = 1
      · subst h1; exact done_get w b c v u R room id val oth all h hi
      · by_cases h3 : d = 3
        · subst h3; exact done_next w b c v u R room id val oth all h hi
        · by_cases h4 : d = 4
          · subst h4; exact done_all w b c v u R room id val oth all h hi
          · exact done_other w b c v u R room d id val oth all h h0 h1 h2 h3 h4
/-- A walk that was taken, and what it is to tell. -/
structure Kp where
  bk : Nat
  lv : Value
  wv : Value
  K : IPs
def Kp.blocks (e : Kp) : List Nat := e.bk :: (e.lv.ownBlock.toList ++ e.wv.ownBlock.toList)
def Kp.cells (e : Kp) : List Value := [.func (.func 67) #[] #[.pointer (some ⟨e.bk, 0, none⟩)], e.wv]
structure KeptAt (e : Kp) (W : World) : Prop where
  held : VHeld e.bk e.lv (mapV e.K) W
  want : W.ownsRow 0 154 2 e.wv e.K.length (flat payN e.K)
  lim : e.K.length ≤ 65536
theorem KeptAt.fr {e : Kp} {S : List Nat} {W W' : World} (h : KeptAt e W) (f : Fr S W W') (hs : ∀ g, g ∈ e.blocks → g ∉ S) : KeptAt e W' :=
  ⟨⟨f.blk h.held.1 (hs _ (by simp [Kp.blocks])), own_fr h.held.2 f (fun g hg => hs g (by simp [Kp.blocks, hg]))⟩, own_fr h.want f (fun g hg => hs g (by simp [Kp.blocks, hg])), h.lim⟩
theorem KeptAt.lt {e : Kp} {W : World} (h : KeptAt e W) : ∀ g, g ∈ e.blocks → g < W.heap.size := by
  intro g hg
  unfold Kp.blocks at hg
  simp only [List.mem_cons, List.mem_append, Option.mem_toList] at hg
  rcases hg with hg | hg | hg
  · rw [hg]; exact h.held.1.lt
  · exact own_lt h.held.2 hg
  · exact own_lt h.want hg
theorem KeptAt.ty {e : Kp} {W : World} (h : KeptAt e W) {k : Nat} {c : Array Value} {t : TypeId} (hb : Blk W k c t) (h1 : t ≠ 66) (h2 : t ≠ 143) (h3 : t ≠ 154) : k ∉ e.blocks := by
  intro hg
  unfold Kp.blocks at hg
  simp only [List.mem_cons, List.mem_append, Option.mem_toList] at hg
  rcases hg with hg | hg | hg
  · subst hg; exact h1 (hb.inj h.held.1).2
  · exact own_notin h.held.2 hb (Ne.symm h2) (by simp [hg])
  · exact own_notin h.want hb (Ne.symm h3) (by simp [hg])
theorem ps_lt {b c : Nat} {v u : Value} {R : IPs} {r : Int} {W : World} (h : PT b c v u R r W) : ∀ g, g ∈ PS b c v u → g < W.heap.size := by
  intro g hg
  unfold PS at hg
  simp only [List.mem_cons, List.mem_append, Option.mem_toList] at hg
  rcases hg with hg | hg | hg | hg
  · rw [hg]; exact h.tab.hd.lt
  · rw [hg]; exact h.ref.hd.lt
  · exact own_lt h.tab.own hg
  · exact own_lt h.ref.own hg
theorem ps_ty {b c : Nat} {v u : Value} {R : IPs} {r : Int} {W : World} (h : PT b c v u R r W) {k : Nat} {d : Array Value} {t : TypeId} (hb : Blk W k d t) (h1 : t ≠ 68) (h2 : t ≠ 52) (h3 : t ≠ 143) (h4 : t ≠ 154) : k ∉ PS b c v u := by
  intro hg
  unfold PS at hg
  simp only [List.mem_cons, List.mem_append, Option.mem_toList] at hg
  rcases hg with hg | hg | hg | hg
  · subst hg; exact h1 (hb.inj h.tab.hd).2
  · subst hg; exact h2 (hb.inj h.ref.hd).2
  · exact own_notin h.tab.own hb (Ne.symm h3) (by simp [hg])
  · exact own_notin h.ref.own hb (Ne.symm h4) (by simp [hg])
theorem PT.fr {b c : Nat} {v u : Value} {R : IPs} {r : Int} {S : List Nat} {W W' : World} (h : PT b c v u R r W) (f : Fr S W W') (hs : ∀ g, g ∈ PS b c v u → g ∉ S) : PT b c v u R r W' :=
  ⟨h.tab.fr f (hs _ (by simp [PS])) (fun g hg => hs g (by simp [PS, hg])), h.ref.fr f (hs _ (by simp [PS])) (fun g hg => hs g (by simp [PS, hg])), h.rm⟩

/-- The memory of TablePlays between two steps. -/
structure TP (w : World) (b0 c0 : Nat) (r0 : Int) (R0 : IPs) (b1 c1 : Nat) (r1 : Int) (R1 : IPs) (L : List Kp) (W : World) : Prop where
  ex : ∃ v0 u0 v1 u1, PT b0 c0 v0 u0 R0 r0 W ∧ PT b1 c1 v1 u1 R1 r1 W ∧ (∀ g, g ∈ PS b0 c0 v0 u0 → g ∉ PS b1 c1 v1 u1) ∧ (∀ g, g ∈ PS b0 c0 v0 u0 → w.heap.size ≤ g) ∧ (∀ g, g ∈ PS b1 c1 v1 u1 → w.heap.size ≤ g) ∧
    ∀ e, e ∈ L → ∀ g, g ∈ e.blocks → g ∉ PS b0 c0 v0 u0 ∧ g ∉ PS b1 c1 v1 u1
  kept : ∀ e, e ∈ L → KeptAt e W
  fr : Fr [] w W
section
variable {w W W' : World} {b0 c0 b1 c1 : Nat} {r0 r1 : Int} {R0 R1 : IPs} {L : List Kp}
theorem TP.swap (h : TP w b0 c0 r0 R0 b1 c1 r1 R1 L W) : TP w b1 c1 r1 R1 b0 c0 r0 R0 L W := by
  obtain ⟨v0, u0, v1, u1, h1, h2, h3, h4, h5, h6⟩ := h.ex
  exact ⟨⟨v1, u1, v0, u0, h2, h1, fun g hg hg2 => h3 g hg2 hg, h5, h4, fun e he g hg => ⟨(h6 e he g hg).2, (h6 e he g hg).1⟩⟩, h.kept, h.fr⟩
theorem TP.lim (h : TP w b0 c0 r0 R0 b1 c1 r1 R1 L W) : R0.length ≤ 65536 := by
  obtain ⟨v0, u0, v1, u1, h1, _⟩ := h.ex
  exact h1.ref.lim
/-- What is written beside. -/
theorem TP.aside {S : List Nat} (h : TP w b0 c0 r0 R0 b1 c1 r1 R1 L W) (f : Fr S W W') (hS : ∀ k, k ∈ S → w.heap.size ≤ k ∧ ∃ d, Blk W k d 61) : TP w b0 c0 r0 R0 b1 c1 r1 R1 L W' := by
  obtain ⟨v0, u0, v1, u1, h1, h2, h3, h4, h5, h6⟩ := h.ex
  refine ⟨⟨v0, u0, v1, u1, h1.fr f (fun g hg hS2 => ?_), h2.fr f (fun g hg hS2 => ?_), h3, h4, h5, h6⟩, fun e he => (h.kept e he).fr f (fun g hg hS2 => ?_), h.fr.trans f (fun k hk => .inr (hS k hk).1)⟩
  · obtain ⟨_, d, hd⟩ := hS g hS2
    exact ps_ty h1 hd (by decide) (by decide) (by decide) (by decide) hg
  · obtain ⟨_, d, hd⟩ := hS g hS2
    exact ps_ty h2 hd (by decide) (by decide) (by decide) (by decide) hg
  · obtain ⟨_, d, hd⟩ := hS g hS2
    exact (h.kept e he).ty hd (by decide) (by decide) (by decide) hg
theorem TP.grow (h : TP w b0 c0 r0 R0 b1 c1 r1 R1 L W) (f : Fr [] W W') : TP w b0 c0 r0 R0 b1 c1 r1 R1 L W' := h.aside f (by simp)
/-- One more walk is kept. -/
theorem TP.more (h : TP w b0 c0 r0 R0 b1 c1 r1 R1 L W) (f : Fr [] W W') {e : Kp} (he : KeptAt e W') (hn : ∀ g, g ∈ e.blocks → W.heap.size ≤ g) : TP w b0 c0 r0 R0 b1 c1 r1 R1 (L ++ [e]) W' := by
  obtain ⟨v0, u0, v1, u1, h1, h2, h3, h4, h5, h6⟩ := h.ex
  refine ⟨⟨v0, u0, v1, u1, h1.grow f, h2.grow f, h3, h4, h5, fun x hx => ?_⟩, fun x hx => ?_, h.fr.trans f (by simp)⟩
  · rcases List.mem_append.1 hx with hx | hx
    · exact h6 x hx
    · have : x = e := by simpa using hx
      subst this
      exact fun g hg => ⟨fun hg2 => by have := ps_lt h1 g hg2; have := hn g hg; omega, fun hg2 => by have := ps_lt h2 g hg2; have := hn g hg; omega⟩
  · rcases List.mem_append.1 hx with hx | hx
    · exact (h.kept x hx).fr f (by simp)
    · have : x = e := by simpa using hx
      subst this
      exact he
/-- A step on the first table. -/
theorem tp_done (h : TP w b0 c0 r0 R0 b1 c1 r1 R1 L W) (x : Stp) (hi : U32 x.id) :
    Calls Tryd.prog 21 #[.pointer (some ⟨b0, 0, none⟩), .pointer (some ⟨c0, 0, none⟩), x.val'] W fun e W' => e = .returned (.bool true) ∧ TP w b0 c0 r0 (stepR R0 r0 x) b1 c1 r1 R1 L W' ∧ KeepsTy [46, 48, 61] W W' := by
  obtain ⟨v0, u0, v1, u1, h1, h2, h3, h4, h5, h6⟩ := h.ex
  refine (done_any W b0 c0 v0 u0 R0 r0 x h1 hi).mono fun e W' hp => ?_
  obtain ⟨he, v', u', hp1, hp2, f⟩ := hp
  refine ⟨he, ⟨⟨v', u', v1, u1, hp1, h2.fr f (fun g hg hg2 => h3 g hg2 hg), fun g hg hg2 => ?_, fun g hg => ?_, h5, fun e he g hg => ⟨fun hg2 => ?_, (h6 e he g hg).2⟩⟩, fun e he => (h.kept e he).fr f (fun g hg => (h6 e he g hg).1), h.fr.trans f (fun k hk => .inr (h4 k hk))⟩, KeepsTy.of_fr f (fun k hk => ?_)⟩
  · rcases hp2 g hg with q | q
    · exact h3 g q hg2
    · have := ps_lt h2 g hg2; omega
  · rcases hp2 g hg with q | q
    · exact h4 g q
    · exact Nat.le_trans h.fr.size q
  · rcases hp2 g hg2 with q | q
    · exact (h6 e he g hg).1 q
    · have := (h.kept e he).lt g hg; omega
  · unfold PS at hk
    simp only [List.mem_cons, List.mem_append, Option.mem_toList] at hk
    rcases hk with hk | hk | hk | hk
    · subst hk; exact ⟨_, _, h1.tab.hd, by decide⟩
    · subst hk; exact ⟨_, _, h1.ref.hd, by decide⟩
    · obtain ⟨c, hc⟩ := own_blk h1.tab.own k (by simp [hk]); exact ⟨c, _, hc, by decide⟩
    · obtain ⟨c, hc⟩ := own_blk h1.ref.own k (by simp [hk]); exact ⟨c, _, hc, by decide⟩
end
theorem own_ty {ts : List TypeId} {W W' : World} {e : TypeId} {s n : Nat} {v : Value} {xs : List Value} (h : W.ownsRow 0 e s v n xs) (k : KeepsTy ts W W') (he : e ∈ ts) : W'.ownsRow 0 e s v n xs := by
  refine ⟨h.1, ?_⟩
  rcases h.2 with hn | ⟨g, cap, cur, rfl, hb, hgg, rest⟩
  · exact .inl hn
  · exact .inr ⟨g, cap, cur, rfl, hb, k g cur e he hgg, rest⟩
/-- A script of steps reads. -/
def Stp.cells (x : Stp) : List Value := [.int .i64 x.do, .bool x.other, .int .u32 x.id, .int .i64 x.val, .bool x.all]
def RdSt (w : World) (v : Value) (l : List Stp) : Prop :=
  ∃ p cap, v = .slice p l.length cap ∧ (l.length = 0 ∨ ∃ g o, p = some ⟨g, o, none⟩ ∧ ∀ j x, l[j]? = some x → w.cell? ⟨g, o + j * 5, none⟩ = some (.int .i64 x.do) ∧ w.cell? ⟨g, o + j * 5 + 1, none⟩ = some (.bool x.other) ∧ w.cell? ⟨g, o + j * 5 + 2, none⟩ = some (.int .u32 x.id) ∧ w.cell? ⟨g, o + j * 5 + 3, none⟩ = some (.int .i64 x.val) ∧ w.cell? ⟨g, o + j * 5 + 4, none⟩ = some (.bool x.all))
theorem RdSt.grow {w w' : World} {v : Value} {l : List Stp} (h : RdSt w v l) (f : Fr [] w w') : RdSt w' v l := by
  obtain ⟨p, cap, rfl, h0⟩ := h
  refine ⟨p, cap, rfl, ?_⟩
  rcases h0 with h0 | ⟨g, o, rfl, h0⟩
  · exact .inl h0
  · refine .inr ⟨g, o, rfl, fun j x hj => ?_⟩
    obtain ⟨a, b, c, d, e⟩ := h0 j x hj
    have k : ∀ {a : Addr} {v : Value}, w.cell? a = some v → w'.cell? a = some v := fun {a v} q => (f.cell (World.block_lt_of_cell? w _ q) (by simp)).trans q
    exact ⟨k a, k b, k c, k d, k e⟩
def kcells (L : List Kp) : List Value := L.flatMap Kp.cells
theorem kcells_snoc (L : List Kp) (e : Kp) : kcells (L ++ [e]) = kcells L ++ e.cells := by simp [kcells]
theorem kcells_at : ∀ {L : List Kp} {j : Nat} {e : Kp}, L[j]? = some e → (kcells L)[j * 2]? = some (.func (.func 67) #[] #[.pointer (some ⟨e.bk, 0, none⟩)]) ∧ (kcells L)[j * 2 + 1]? = some e.wv
  | [], j, e, h => by simp at h
  | x :: r, 0, e, h => by
    have : x = e := by simpa using h
    subst this
    simp [kcells, Kp.cells]
  | x :: r, j + 1, e, h => by
    have h2 : r[j]? = some e := by simpa using h
    obtain ⟨h3, h4⟩ := kcells_at h2
    have e1 : kcells (x :: r) = x.cells ++ kcells r := by simp [kcells]
    have hl : x.cells.length = 2 := rfl
    rw [e1]
    refine ⟨?_, ?_⟩
    · rw [List.getElem?_append_right (by omega), hl, show (j + 1) * 2 - 2 = j * 2 by omega]; exact h3
    · rw [List.getElem?_append_right (by omega), hl, show (j + 1) * 2 + 1 - 2 = j * 2 + 1 by omega]; exact h4
theorem nil_none (W : World) : NoT W (.pointer none) := by unfold NoT; exact .inl rfl
theorem zero_none (W : World) : NoT (W.alloc (.cells #[.int .i64 0, .slice none 0 0] 68)) (.pointer (some ⟨W.heap.size, 0, none⟩)) := by unfold NoT; exact .inr ⟨_, 0, rfl, Blk.new W _ _⟩
def Stab.walk (n : Nat) (R : IPs) : Stab := ⟨fun v W => ∃ bk lv, v = .func (.func 67) #[] #[.pointer (some ⟨bk, 0, none⟩)] ∧ VHeld bk lv (mapV R) W ∧ n ≤ bk ∧ ∀ g, lv.ownBlock = some g → n ≤ g, fun u W W' f h => by
  obtain ⟨bk, lv, h1, h2, h3⟩ := h
  exact ⟨bk, lv, h1, h2.fr0 f, h3⟩⟩
def Stab.copy (n : Nat) (R : IPs) : Stab := ⟨fun v W => W.ownsRow 0 154 2 v R.length (flat payN R) ∧ ∀ g, v.ownBlock = some g → n ≤ g, fun u W W' f h => ⟨own_fr h.1 f (by simp), h.2⟩⟩
def Stab.kept (n : Nat) (R : IPs) : Stab := ⟨fun v W => ∃ e : Kp, e.K = R ∧ KeptAt e W ∧ (∀ g, g ∈ e.blocks → n ≤ g) ∧ (∃ p c, e.wv = .slice p R.length c) ∧ v = .agg e.cells.toArray, fun u W W' f h => by
  obtain ⟨e, h1, h2, h3⟩ := h
  exact ⟨e, h1, h2.fr f (by simp), h3⟩⟩
def Stab.one (n : Nat) (R : IPs) : Stab := ⟨fun v W => ∃ (e : Kp) (k : Nat), e.K = R ∧ KeptAt e W ∧ (∀ g, g ∈ e.blocks → n ≤ g) ∧ (∃ p c, e.wv = .slice p R.length c) ∧ v = .slice (some ⟨k, 0, none⟩) 1 1 ∧ Blk W k e.cells.toArray 61, fun u W W' f h => by
  obtain ⟨e, k, h1, h2, h3, h4, h5, h6⟩ := h
  exact ⟨e, k, h1, h2.fr f (by simp), h3, h4, h5, f.blk h6 (by simp)⟩⟩
/-- Between two steps of the script. -/
structure Lp (w : World) (bt bm b0 c0 b1 c1 : Nat) (r0 r1 : Int) (i : Nat) (vl : Value) (W : World) : Prop where
  ex : ∃ (L : List Kp) (R0 R1 : IPs), L.length ≤ i ∧ W.ownsRow 0 61 2 vl L.length (kcells L) ∧ (∀ g, vl.ownBlock = some g → w.heap.size ≤ g) ∧ TP w b0 c0 r0 R0 b1 c1 r1 R1 L W ∧
    Blk W bt #[.pointer (some ⟨b0, 0, none⟩), .pointer (some ⟨b1, 0, none⟩)] 46 ∧ Blk W bm #[.pointer (some ⟨c0, 0, none⟩), .pointer (some ⟨c1, 0, none⟩)] 48
end Go.Proofs.YtgoolkgjcmdilaaDoor
