/-
  Tb, part 34 of 36: the texts Boo.
-/
import Derived.Test.YtgoolkgjcmdilaaDoorTb16
import Derived.Test.YtgoolkgjcmdilaaDoorTb33
section
namespace Go.Proofs.YtgoolkgjcmdilaaDoor
open Go.RowKit Flo
set_option linter.unusedVariables false
set_option linter.unusedSimpArgs false
attribute [local go_sem] Oper.semAt_some
/-- A step, as it reads. -/
structure SV where
  kd : Int
  ob : Int
  fe : Int
  nu : Int
  ti : Int
  px : Int
  py : Int
  a0 : Int
  a1 : Int
  a2 : Int
  a3 : Int
  a4 : Int
  sp : Nat
  up : Option Addr
  un : Nat
  uc : Nat
  I : List Int
def encS (s : SV) : List Value := [.int .i64 s.kd, .int .u32 s.ob, .int .u32 s.fe, .int .u32 s.nu, .int .u32 s.ti, .int .i32 s.px, .int .i32 s.py, .int .u32 s.a0, .int .u32 s.a1, .int .u32 s.a2, .int .i32 s.a3, .int .i32 s.a4, .float .f64 s.sp, .slice s.up s.un s.uc]
theorem encS_len (s : SV) : (encS s).length = 14 := rfl
structure StepOk (w : World) (s : SV) : Prop where
  ob : U32 s.ob
  fe : U32 s.fe
  ti : U32 s.ti
  px : I32 s.px
  py : I32 s.py
  a0 : U32 s.a0
  a2 : U32 s.a2
  a3 : I32 s.a3
  a4 : I32 s.a4
  ids : IdS w (.slice s.up s.un s.uc) s.I
  un : s.un = s.I.length
  iu : ∀ f ∈ s.I, U32 f
  lim : s.un ≤ 35184372088832
def stepA (s : SV) : Value := .agg #[.int .i64 s.kd, .int .u32 s.ob, .int .u32 s.fe, .int .u32 s.nu, .int .u32 s.ti, .int .i32 s.px, .int .i32 s.py, .int .u32 s.a0, .int .u32 s.a1, .int .u32 s.a2, .int .i32 s.a3, .int .i32 s.a4, .float .f64 s.sp, .slice s.up s.un s.uc]
theorem asks_any (w : World) (M N : List Nat) (k kr rO rN : Nat) (F : List Int) (V : List VO) (s : SV) (h : St w M N k kr rO rN F V) (hob : U32 s.ob) (hfe : U32 s.fe) :
    Calls Tryd.prog 53 #[.pointer (some ⟨k, 0, none⟩), .pointer (some ⟨kr, 0, none⟩), stepA s] w fun e w' => e = .returned (.bool true) ∧ Fr [] w w' := by
  obtain ⟨kd, ob, fe, nu, ti, px, py, a0, a1, a2, a3, a4, sp, up, un, uc, I⟩ := s
  unfold stepA
  dsimp only at hob hfe ⊢
  by_cases h8 : kd = 8
  · subst h8
    rcases posV_case V ob with hz | ⟨r, o, hz, ho⟩
    · exact asks_in_no w M N k kr rO rN F V ob fe nu ti px py a0 a1 a2 a3 a4 sp up un uc h hob hfe hz
    · exact asks_in_yes w M N k kr rO rN F V ob fe nu ti px py a0 a1 a2 a3 a4 sp up un uc h hob hfe r o hz ho
  · by_cases h9 : kd = 9
    · subst h9
      exact asks_inside w M N k kr rO rN F V ob fe nu ti px py a0 a1 a2 a3 a4 sp up un uc h hob hfe
    · by_cases h10 : kd = 10
      · subst h10
        rcases posV_case V ob with hz | ⟨r, o, hz, ho⟩
        · exact asks_get_no w M N k kr rO rN F V ob fe nu ti px py a0 a1 a2 a3 a4 sp up un uc h hob hfe hz
        · exact asks_get_yes w M N k kr rO rN F V ob fe nu ti px py a0 a1 a2 a3 a4 sp up un uc h hob hfe r o hz ho
      · by_cases h11 : kd = 11
        · subst h11
          exact asks_all w M N k kr rO rN F V ob fe nu ti px py a0 a1 a2 a3 a4 sp up un uc h hob hfe
        · exact asks_else w M N k kr rO rN F V kd ob fe nu ti px py a0 a1 a2 a3 a4 sp up un uc h hob hfe h8 h9 h10 h11
theorem changes_any (w : World) (M N : List Nat) (k kr rO rN : Nat) (F : List Int) (V : List VO) (s : SV) (h : St w M N k kr rO rN F V) (hs : StepOk w s) (hI : Firm M w (fun W => IdS W (.slice s.up s.un s.uc) s.I)) :
    Calls Tryd.prog 54 #[.pointer (some ⟨k, 0, none⟩), .pointer (some ⟨kr, 0, none⟩), stepA s] w (ChPost w M N k kr rO rN) := by
  obtain ⟨kd, ob, fe, nu, ti, px, py, a0, a1, a2, a3, a4, sp, up, un, uc, I⟩ := s
  obtain ⟨q1, q2, q3, q4, q5, q6, q7, q8, q9, q10, q11, q12, q13⟩ := hs
  unfold stepA
  dsimp only at *
  by_cases h1 : kd = 1
  · subst h1
    exact chg_move w M N k kr rO rN F V ob fe nu ti px py a0 a1 a2 a3 a4 sp up un uc h q1 q2 q3 q4 q5
  by_cases h2 : kd = 2
  · subst h2
    exact chg_lay w M N k kr rO rN F V ob fe nu ti px py a0 a1 a2 a3 a4 sp up un uc h q1 q2 I hI q11 q12 q13 q6 q7 q8 q9
  by_cases h3 : kd = 3
  · subst h3
    exact chg_forget w M N k kr rO rN F V ob fe nu ti px py a0 a1 a2 a3 a4 sp up un uc h q1 q2
  by_cases h4 : kd = 4
  · subst h4
    exact chg_add w M N k kr rO rN F V ob fe nu ti px py a0 a1 a2 a3 a4 sp up un uc h q1 q2
  by_cases h5 : kd = 5
  · subst h5
    exact chg_drop w M N k kr rO rN F V ob fe nu ti px py a0 a1 a2 a3 a4 sp up un uc h q1 q2
  by_cases h6 : kd = 6
  · subst h6
    exact chg_enter w M N k kr rO rN F V ob fe nu ti px py a0 a1 a2 a3 a4 sp up un uc h q1 q2
  by_cases h7 : kd = 7
  · subst h7
    exact chg_leave w M N k kr rO rN F V ob fe nu ti px py a0 a1 a2 a3 a4 sp up un uc h q1 q2
  exact chg_else w M N k kr rO rN F V kd ob fe nu ti px py a0 a1 a2 a3 a4 sp up un uc h q1 q2 h1 h2 h3 h4 h5 h6 h7
/-- An iterator that was taken, and what it is to tell. -/
structure Kept where
  bl : Nat
  v : Value
  L : List RO
  V : List VO
  pw : Option Addr
  nw : Nat
  cw : Nat
  Lw : List RO
def encKe (κ : Kept) : List Value := [.func (.func 111) #[] #[.pointer (some ⟨κ.bl, 0, none⟩)], .slice κ.pw κ.nw κ.cw]
theorem encKe_len (κ : Kept) : (encKe κ).length = 2 := rfl
theorem encKe_one (κ : Kept) : ∀ u ∈ encKe κ, u.oneCell' = true := by
  intro u hu
  simp [encKe] at hu
  rcases hu with rfl | rfl <;> rfl
structure KeptOk (κ : Kept) (W : World) : Prop where
  held : KHeld κ.bl κ.v κ.L κ.V W
  obs : ObS W (.slice κ.pw κ.nw κ.cw) κ.Lw
  nw : κ.nw = κ.Lw.length
  lw : κ.Lw.length = κ.V.length
  is : ∀ (k : Nat) (x : RO) (o : VO), κ.Lw[k]? = some x → κ.V[k]? = some o → Is W x o
  ids : ∀ o ∈ κ.V, o.ids.length ≤ 64
  len : κ.V.length ≤ 64
theorem kept_tells {κ : Kept} {W : World} (h : KeptOk κ W) : Calls Tryd.prog 55 #[.agg #[.func (.func 111) #[] #[.pointer (some ⟨κ.bl, 0, none⟩)], .slice κ.pw κ.nw κ.cw]] W fun e w' => e = .returned (.bool true) ∧ Fr [] W w' :=
  tells_any W κ.bl κ.v κ.L κ.V κ.pw κ.nw κ.cw κ.Lw h.held (by have := h.held.al.len; have := h.len; omega) (fun o ho => by have := h.ids o ho; omega) h.obs h.nw h.lw h.is
/-- Between two steps. -/
structure BI (w0 : World) (k kr rO rN : Nat) (M N : List Nat) (F : List Int) (V : List VO) (lv : Value) (κs : List Kept) (i : Nat) (W : World) : Prop where
  st : St W M N k kr rO rN F V
  fr : Fr [] w0 W
  mlow : ∀ s ∈ M, w0.heap.size ≤ s
  row : RowNew w0 129 2 W lv κs.length (κs.flatMap encKe)
  own : ∀ g, lv.ownBlock = some g → g ∈ M ∧ g ∉ N ∧ g ≠ kr
  len : κs.length ≤ i
  kept : ∀ κ ∈ κs, Firm M W (KeptOk κ)
section
variable {w0 W W' : World} {k kr rO rN i : Nat} {M N : List Nat} {F : List Int} {V : List VO} {lv : Value} {κs : List Kept}
theorem BI.grow (h : BI w0 k kr rO rN M N F V lv κs i W) (f : Fr [] W W') : BI w0 k kr rO rN M N F V lv κs i W' :=
  ⟨h.st.grow f, h.fr.trans f (by simp), h.mlow, h.row.grow f, h.own, h.len, fun κ hκ => (h.kept κ hκ).grow f⟩
theorem BI.chg (h : BI w0 k kr rO rN M N F V lv κs i W) {M' N' : List Nat} {F' : List Int} {V' : List VO} (st : St W' M' N' k kr rO rN F' V') (f : Fr (kr :: N) W W') (hM : ∀ s ∈ M', s ∈ M ∨ W.heap.size ≤ s) (hN : ∀ s ∈ N', s ∈ N ∨ W.heap.size ≤ s) (hMM : ∀ s ∈ M, s ∈ M') : BI w0 k kr rO rN M' N' F' V' lv κs i W' := by
  have hk : ∀ s ∈ kr :: N, s ∈ M ∨ W.heap.size ≤ s := fun s hs => by
    rcases List.mem_cons.1 hs with rfl | hs
    · exact .inl h.st.rb.mem.1
    · exact .inl (h.st.sub s hs)
  have h0 : ∀ s ∈ kr :: N, w0.heap.size ≤ s := fun s hs => by
    rcases List.mem_cons.1 hs with rfl | hs
    · exact h.mlow _ h.st.rb.mem.1
    · exact h.mlow _ (h.st.sub s hs)
  have hlt : ∀ g, lv.ownBlock = some g → g < W.heap.size := fun g hg => own_lt h.row.own hg
  refine ⟨st, h.fr.trans f (fun s hs => .inr (h0 s hs)), fun s hs => ?_, ⟨own_fr h.row.own f (fun g hg hm => ?_), h.row.low, h.row.fr.trans f (fun s hs => .inr (h0 s hs))⟩, fun g hg => ⟨hMM g (h.own g hg).1, fun hm => ?_, (h.own g hg).2.2⟩, h.len, fun κ hκ => (h.kept κ hκ).step f hk hM⟩
  · rcases hM s hs with q | q
    · exact h.mlow s q
    · have := h.fr.size; omega
  · rcases List.mem_cons.1 hm with q | q
    · exact (h.own g hg).2.2 q
    · exact (h.own g hg).2.1 q
  · rcases hN g hm with q | q
    · exact (h.own g hg).2.1 q
    · have := hlt g hg; omega
theorem BI.up (h : BI w0 k kr rO rN M N F V lv κs i W) {j : Nat} (hj : i ≤ j) : BI w0 k kr rO rN M N F V lv κs j W := ⟨h.st, h.fr, h.mlow, h.row, h.own, Nat.le_trans h.len hj, h.kept⟩
/-- One more iterator is kept. -/
theorem BI.more (h : BI w0 k kr rO rN M N F V lv κs i W) {W1 : World} {lv' : Value} {κ : Kept} (f1 : Fr [] W W1) (hn : ∀ g ∈ kblks κ.bl κ.v κ.L, W.heap.size ≤ g) (hh : KHeld κ.bl κ.v κ.L κ.V W1) (hok : Firm M W (fun W2 => ObS W2 (.slice κ.pw κ.nw κ.cw) κ.Lw ∧ ∀ (k : Nat) (x : RO) (o : VO), κ.Lw[k]? = some x → κ.V[k]? = some o → Is W2 x o))
    (h1 : κ.nw = κ.Lw.length) (h2 : κ.Lw.length = κ.V.length) (h3 : ∀ o ∈ κ.V, o.ids.length ≤ 64) (h4 : κ.V.length ≤ 64) (happ : Appended W1 129 2 lv (κs.length + 1) (κs.flatMap encKe ++ encKe κ) lv' W') : BI w0 k kr rO rN (lv'.ownBlock.toList ++ M) N F V lv' (κs ++ [κ]) (i + 1) W' := by
  have hg1 := h.grow f1
  have hfr := happ.fr
  have hlt : ∀ g, lv.ownBlock = some g → g < W1.heap.size := fun g hg => own_lt hg1.row.own hg
  have hnew : ∀ g, lv'.ownBlock = some g → (lv.ownBlock = some g) ∨ (g = W1.heap.size) := fun g hg => by
    rcases happ.place with q | q
    · exact .inl (q ▸ hg)
    · rw [q] at hg; cases hg; exact .inr rfl
  have hS : ∀ s ∈ lv.ownBlock.toList, s ∈ M ∨ W1.heap.size ≤ s := fun s hs => .inl (h.own s (by simpa using hs)).1
  have hM : ∀ s ∈ lv'.ownBlock.toList ++ M, s ∈ M ∨ W1.heap.size ≤ s := fun s hs => by
    rcases List.mem_append.1 hs with q | q
    · rcases hnew s (by simpa using q) with q | q
      · exact .inl (h.own s q).1
      · exact .inr (by omega)
    · exact .inl q
  have hl : ∀ s ∈ lv'.ownBlock.toList ++ M, s < W'.heap.size := fun s hs => by
    rcases List.mem_append.1 hs with q | q
    · exact own_lt happ.own (by simpa using q)
    · exact Nat.lt_of_lt_of_le (hg1.st.rb.mem.2 s q) hfr.size
  have hkr : kr ∉ lv.ownBlock.toList := fun hm => (h.own kr (by simpa using hm)).2.2 rfl
  have hsz : W.heap.size ≤ W1.heap.size := f1.size
  have hnr : ∀ g, lv'.ownBlock = some g → g ∉ N ∧ g ≠ kr ∧ w0.heap.size ≤ g := fun g hg => by
    rcases hnew g hg with q | q
    · exact ⟨(h.own g q).2.1, (h.own g q).2.2, h.mlow g (h.own g q).1⟩
    · have h5 := hg1.st.rb.mem
      refine ⟨fun hm => ?_, fun e => ?_, ?_⟩
      · have := h5.2 g (h.st.sub g hm); omega
      · have := h5.2 kr h5.1; omega
      · have := hg1.fr.size; omega
  refine ⟨⟨hg1.st.kb.step hfr (fun s hs => (h.own s (by simpa using hs)).2.1) (fun s hs => hs) (fun s hs => Nat.lt_of_lt_of_le (hg1.st.rb.mem.2 s (h.st.sub s hs)) hfr.size), hg1.st.rb.step hfr hS hkr hM hl (List.mem_append.2 (.inr hg1.st.rb.mem.1)), fun s hs => List.mem_append.2 (.inr (h.st.sub s hs)), h.st.out, hg1.st.deb.step hfr hS hM⟩,
    hg1.fr.trans hfr (fun s hs => .inr (h.mlow s (h.own s (by simpa using hs)).1)), fun s hs => ?_, ?_, fun g hg => ⟨by simp [hg], (hnr g hg).1, (hnr g hg).2.1⟩, by have := h.len; rw [List.length_append, List.length_singleton]; omega, fun κ' hκ' => ?_⟩
  · rcases List.mem_append.1 hs with q | q
    · exact (hnr s (by simpa using q)).2.2
    · exact h.mlow s q
  · rw [List.length_append, List.length_singleton, List.flatMap_append, show [κ].flatMap encKe = encKe κ by simp]
    exact hg1.row.app happ
  · rcases List.mem_append.1 hκ' with q | q
    · exact (hg1.kept κ' q).step hfr hS hM
    · simp at q
      subst q
      have h6 := ((hok.grow f1).step hfr hS hM)
      have hb : ∀ g ∈ kblks κ'.bl κ'.v κ'.L, g ∉ lv.ownBlock.toList ∧ g ∉ lv'.ownBlock.toList ++ M := fun g hg => by
        have h7 := hn g hg
        have h8 := hh.lt g hg
        refine ⟨fun hm => ?_, fun hm => ?_⟩
        · have := own_lt h.row.own (g := g) (by simpa using hm); omega
        · rcases List.mem_append.1 hm with q | q
          · rcases hnew g (by simpa using q) with q | q
            · have := own_lt h.row.own q; omega
            · omega
          · have := h.st.rb.mem.2 g q; omega
      have hh' := hh.fr hfr (fun g hg => (hb g hg).1)
      exact fun W2 F2 => ⟨hh'.fr F2 (fun g hg => (hb g hg).2), (h6 W2 F2).1, h1, h2, (h6 W2 F2).2, h3, h4⟩
end
end Go.Proofs.YtgoolkgjcmdilaaDoor
end
