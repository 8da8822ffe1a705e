/-
  Tb, part 23 of 36: the texts KbE App.
-/
import Derived.Test.YtgoolkgjcmdilaaDoorTb22
section
namespace Go.Proofs.YtgoolkgjcmdilaaDoor
open Go.RowKit
set_option linter.unusedVariables false
set_option linter.unusedSimpArgs false
attribute [local go_sem] Oper.semAt_some
theorem sep_mem {Cs : List OC} (h : Cs.Pairwise OC.apart) {a b : OC} (ha : a ∈ Cs) (hb : b ∈ Cs) (hn : a ≠ b) : a.apart b := by
  obtain ⟨i, hi⟩ := List.mem_iff_getElem?.1 ha
  obtain ⟨j, hj⟩ := List.mem_iff_getElem?.1 hb
  obtain ⟨hi1, hi2⟩ := List.getElem?_eq_some_iff.1 hi
  obtain ⟨hj1, hj2⟩ := List.getElem?_eq_some_iff.1 hj
  rcases Nat.lt_trichotomy i j with h3 | h3 | h3
  · have := List.pairwise_iff_getElem.1 h i j hi1 hj1 h3
    rw [hi2, hj2] at this
    exact this
  · subst h3
    rw [hi] at hj
    cases hj
    exact absurd rfl hn
  · have := List.pairwise_iff_getElem.1 h j i hj1 hi1 h3
    rw [hi2, hj2] at this
    exact this.symm
/-- The rows of all sets. -/
def rowsOf (Cs : List OC) : List Nat := Cs.flatMap fun c => c.vB.ownBlock.toList
theorem mem_rows {Cs : List OC} {c : OC} (hc : c ∈ Cs) {g : Nat} (hg : c.vB.ownBlock = some g) : g ∈ rowsOf Cs := by
  unfold rowsOf
  rw [List.mem_flatMap]
  exact ⟨c, hc, by simp [hg]⟩
theorem delB_delB (B : List Bool) (p : Int) : delB (delB B p) p = delB B p := by
  unfold delB
  by_cases h : hasB B p = true
  · rw [if_pos h, if_neg]
    unfold hasB at h ⊢
    simp at h ⊢
    intro _
    rw [List.getElem?_set]
    split
    · split <;> rfl
    · rename_i hx; exact absurd rfl hx
  · rw [if_neg h, if_neg h]
theorem delB_len (B : List Bool) (p : Int) : (delB B p).length = B.length := by
  unfold delB
  split
  · simp
  · rfl
/-- Between two rounds of DropFence. -/
structure DrI (w : World) (bp : Nat) (p : Int) (Cs : List OC) (pre : List {c // c ∈ Cs}) (W : World) : Prop where
  fr : Fr (rowsOf Cs) w W
  pc : Blk W bp #[.int .i64 p] 3
  done : ∀ x ∈ pre, ∃ ws, BitsAt W x.1.bB x.1.vB (delB x.1.B p) ws
  left : ∀ c ∈ Cs, (∀ x ∈ pre, x.1 ≠ c) → ∃ ws, BitsAt W c.bB c.vB c.B ws
theorem BitsAt.ab {A B : World} {row : Option Nat} {n : Nat} (hg : A.grownBy B row) (hr : ∀ r, row = some r → r ∈ ([] : List Nat) ∨ (n ≤ r ∧ ∃ o : Obj, A.heap[r]? = some o ∧ o.isCells = false)) {b : Nat} {v : Value} {bs : List Bool} {ws : List Nat} (h : BitsAt A b v bs ws) : BitsAt B b v bs ws :=
  ⟨blk_ab hg hr h.hd (by simp), own_ab hg hr h.own (by simp), h.nn, h.len, h.lt, h.bits, h.lim⟩
theorem dr_ab (w : World) (bp : Nat) (p : Int) (Cs : List OC) (k : Nat) (hk : w.heap.size ≤ k) : Ab k [] (DrI w bp p Cs) :=
  fun s A B row h hg hr =>
    ⟨fr_ab hg hr hk h.fr (by simp), blk_ab hg hr h.pc (by simp), fun x hx => (h.done x hx).imp fun ws hb => hb.ab hg hr, fun c hc hn => (h.left c hc hn).imp fun ws hb => hb.ab hg hr⟩
/-- How the bits stand. -/
theorem DrI.bits {w W : World} {bp : Nat} {p : Int} {Cs : List OC} {pre : List {c // c ∈ Cs}} (h : DrI w bp p Cs pre W) (c : OC) (hc : c ∈ Cs) : ∃ B ws, BitsAt W c.bB c.vB B ws ∧ delB B p = delB c.B p := by
  by_cases hx : ∃ x ∈ pre, x.1 = c
  · obtain ⟨x, hx, rfl⟩ := hx
    obtain ⟨ws, hb⟩ := h.done x hx
    exact ⟨_, ws, hb, delB_delB _ _⟩
  · obtain ⟨ws, hb⟩ := h.left c hc (fun x hx' e => hx ⟨x, hx', e⟩)
    exact ⟨_, ws, hb, rfl⟩
theorem DrI.next {w W W' : World} {bp : Nat} {p : Int} {Cs : List OC} {pre : List {c // c ∈ Cs}} (h : DrI w bp p Cs pre W) (hs : Cs.Pairwise OC.apart) (c : OC) (hc : c ∈ Cs) {ws : List Nat} {ws' : List Nat} {B : List Bool} (h0 : BitsAt W c.bB c.vB B ws') (hb : BitsAt W' c.bB c.vB (delB c.B p) ws) (f : Fr c.vB.ownBlock.toList W W') : DrI w bp p Cs (pre ++ [⟨c, hc⟩]) W' := by
  have key : ∀ (d : OC) (bs : List Bool) (us : List Nat), d ∈ Cs → d ≠ c → BitsAt W d.bB d.vB bs us → BitsAt W' d.bB d.vB bs us := fun d bs us hd hn hd2 => by
    have ha := sep_mem hs hd hc hn
    refine hd2.fr f (fun hm => ?_) (fun g hg hm => ?_)
    · exact own_notin h0.own hd2.hd (by decide) hm
    · exact ha.2.2 g hg (by simpa using hm)
  refine ⟨h.fr.trans f (fun g hg => .inl (mem_rows hc (by simpa using hg))), f.blk h.pc (own_notin h0.own h.pc (by decide)), fun x hx => ?_, fun d hd hn => ?_⟩
  · by_cases he : x.1 = c
    · rw [he]; exact ⟨ws, hb⟩
    · rcases List.mem_append.1 hx with hx | hx
      · obtain ⟨us, hu⟩ := h.done x hx
        exact ⟨us, key _ _ _ x.2 he hu⟩
      · simp at hx
        subst hx
        exact absurd rfl he
  · have he : d ≠ c := fun e => hn ⟨c, hc⟩ (by simp) e.symm
    obtain ⟨us, hu⟩ := h.left d hd (fun x hx => hn x (by simp [hx]))
    exact ⟨us, key _ _ _ hd he hu⟩
set_option maxRecDepth 100000 in
theorem kdrop_no (w : World) (k bO bN bP : Nat) (u : Value) (Fs : List (Int × Int)) (rN fe : Int)
    (h : BkAt w k bO bN bP) (hN : TabN w bN u Fs rN) (hf : U32 fe) (hl : hasId Fs fe = false) :
    Calls Tryd.prog 122 #[.pointer (some ⟨k, 0, none⟩), .int .u32 fe] w fun e w' => e = .returned (.bool false) ∧ Fr [] w w' := by
  have c1 := Blk.at h 1 (v := .pointer (some ⟨bN, 0, none⟩)) rfl
  have HC := Lib.hid (delN_no w bN u Fs rN fe hN hf hl)
  have HH := Lib.hid h
  clear h hN hf hl
  go_enter Tryd.func122, Tryd.ntmps122
  go_wp2_with fail
  (with_reducible refine (there_yes _ k bO bN bP HH.out).mono ?_)
  rintro e w1 ⟨rfl, rfl⟩
  go_wp2_with fail
  (with_reducible refine (HC.out).mono ?_)
  rintro e w1 ⟨rfl, f1⟩
  have HF := Lib.hid f1
  clear f1 c1
  go_wp2_with fail
  refine bodyPost_ret (v := .bool false) (by simp [results, Tryd.results122, go_sem]) rfl ⟨rfl, HF.out.alloc _⟩
def DropPost (w : World) (bN bP : Nat) (u vP : Value) (Fs : List (Int × Int)) (rN r : Nat) (BP : List Bool) (Cs : List OC) (p : Int) (e : Ending) (w' : World) : Prop :=
  e = .returned (.bool true) ∧ (∃ u', TabN w' bN u' (Fs.eraseIdx r) rN ∧ u'.ownBlock = u.ownBlock) ∧ (∃ wP, BitsAt w' bP vP (delB BP p) wP) ∧ (∀ c ∈ Cs, ∃ ws, BitsAt w' c.bB c.vB (delB c.B p) ws) ∧
    Fr ((bN :: u.ownBlock.toList) ++ vP.ownBlock.toList ++ rowsOf Cs) w w'
set_option maxRecDepth 100000 in
set_option maxHeartbeats 2000000 in
theorem kdrop_yes (w : World) (N : List Nat) (k bO bN bP : Nat) (v u vP : Value) (rO rN : Nat) (Fs : List (Int × Int)) (BP : List Bool) (Cs : List OC) (fe p : Int) (h : KBL w N k bO bN bP v u vP rO rN Fs BP Cs) (hf : U32 fe) (hp : Fs[rank Fs fe]? = some (fe, p)) :
    Calls Tryd.prog 122 #[.pointer (some ⟨k, 0, none⟩), .int .u32 fe] w (DropPost w bN bP u vP Fs rN (rank Fs fe) BP Cs p) := by
  have c1 := Blk.at h.hd 1 (v := .pointer (some ⟨bN, 0, none⟩)) rfl
  have HC := Lib.hid (delN_yes w bN u Fs rN fe p h.hN hf hp)
  have HH := Lib.hid h
  clear h hf hp
  refine (callsIn_wide (n := 9)).1 ?_
  refine callsIn_of_wp_marks Tryd.func122 rfl trivial ?_ rfl
  simp only [Tryd.ntmps122, List.size_toArray, List.length_cons, List.length_nil, Nat.reduceAdd, Nat.reduceSub, Array.replicate_succ, Array.replicate_zero, List.push_toArray, List.append_toArray, List.nil_append, List.cons_append]
  gi_wp2
  refine ⟨trivial, (callsIn_wide.2 (there_yes _ k bO bN bP HH.out.hd)).mono ?_⟩
  rintro e w1 ⟨rfl, rfl⟩
  gi_wp2
  refine ⟨trivial, (callsIn_wide.2 HC.out).mono ?_⟩
  rintro e w1 ⟨rfl, u', hN1, ho1, f1⟩
  have HC1 := Lib.hid (And.intro hN1 (And.intro ho1 f1))
  clear HC hN1 ho1 f1 c1
  gi_wp2_with fail
  obtain ⟨hN1, ho1, f1⟩ := HC1.out
  obtain ⟨wP, hP0⟩ := HH.out.hP
  have g1 : k ∉ bN :: u.ownBlock.toList := fun hm => by
    rcases List.mem_cons.1 hm with hm | hm
    · exact absurd (hm ▸ HH.out.hd) (fun hb => by have := (show Blk w bN _ 138 from hb).inj HH.out.hN.hd; simp at this)
    · exact own_notin HH.out.hN.own HH.out.hd (by decide) hm
  have g2 : bP ∉ bN :: u.ownBlock.toList := fun hm => by
    rcases List.mem_cons.1 hm with hm | hm
    · have hb := hP0.hd; rw [hm] at hb; have := hb.inj HH.out.hN.hd; simp at this
    · exact own_notin HH.out.hN.own hP0.hd (by decide) hm
  have g3 : ∀ g, vP.ownBlock = some g → g ∉ bN :: u.ownBlock.toList := fun g hg hm => by
    rcases List.mem_cons.1 hm with hm | hm
    · exact own_ne hP0.own hg HH.out.hN.hd (by decide) hm.symm
    · have e1 : u.ownBlock = some g := by simpa using hm
      obtain ⟨cc, hcc⟩ := own_blk HH.out.hN.own g (by simp [e1])
      exact own_ne hP0.own hg hcc (by decide) rfl
  have F2 : Fr [] w1 (w1.alloc (.cells #[.int .i64 p] 3)) := (Fr.refl _ _).alloc _
  have hpc := Blk.new w1 #[.int .i64 p] 3
  have hb1 := (f1.blk HH.out.hd g1)
  have hP1 := hP0.fr f1 g2 g3
  generalize hbp : w1.heap.size = bp at hpc ⊢
  generalize hw2 : w1.alloc (.cells #[.int .i64 p] 3) = w2 at F2 hpc ⊢
  have HB := Lib.hid (show BkAt w2 k bO bN bP ∧ BitsAt w2 bP vP BP wP ∧ Blk w2 bp #[.int .i64 p] 3 from ⟨F2.blk hb1 (by simp), hP1.grow F2, hpc⟩)
  have HF2 := Lib.hid (And.intro (f1.trans F2 (by simp)) (And.intro (hN1.grow F2) ho1))
  have hle : w.heap.size ≤ bp := by rw [← hbp]; exact f1.size
  have hlt2 : bp < w2.heap.size := hpc.lt
  clear hb1 hP1 hpc F2 hw2 hbp f1 hN1 ho1 HC1
  refine region_chg_in (by kernel_rfl) (by kernel_rfl) [some (.pointer (some ⟨k, 0, none⟩)), some (.pointer (some ⟨k, 0, none⟩)), some (.pointer (some ⟨k, 2, none⟩)), some (.pointer (some ⟨bP, 0, none⟩)), some (.int .i64 p), none] (OnceP w2 5 (fun W2 => (∃ wP, BitsAt W2 bP vP (delB BP p) wP) ∧ Fr vP.ownBlock.toList w2 W2)) 42 rfl (by kernel_rfl) [(0, 23), (1, 24), (2, 25), (3, 26), (4, 27), (5, 28)] (by kernel_rfl) (OnceP.start) ?_ ?_
  · intro q a1 W1 i hi hnq hd hG K hK
    have hlt : i < 6 := hi
    have hc : i = 0 ∨ i = 1 ∨ i = 2 ∨ i = 3 ∨ i = 4 ∨ i = 5 := by omega
    have hΨ := hG.world
    rcases hc with rfl | rfl | rfl | rfl | rfl | rfl
    · have e0 := hG.old 0 (by kernel_rfl)
      refine op_doC_in rfl (wanted_none rfl) hK (fun K' hK' => ?_)
      unfold Oper.wpIn
      go_simp
      exact hK' _ _ (fun u hu => by cases hu; rfl) (hΨ.keep (by decide) hnq (Fr.refl _ _))
    · have e23 := hG.val (v := .pointer (some ⟨k, 0, none⟩)) 0 23 (hd _ rfl ⟨0, .data⟩ (by simp) rfl) rfl rfl
      refine op_doC_in rfl (wanted_none rfl) hK (fun K' hK' => ?_)
      unfold Oper.wpIn
      go_simp
      exact hK' _ _ (fun u hu => by cases hu; rfl) (hΨ.keep (by decide) hnq (Fr.refl _ _))
    · have e24 := hG.val (v := .pointer (some ⟨k, 0, none⟩)) 1 24 (hd _ rfl ⟨1, .data⟩ (by simp) rfl) rfl rfl
      refine op_doC_in rfl (wanted_none rfl) hK (fun K' hK' => ?_)
      unfold Oper.wpIn
      go_simp
      exact hK' _ _ (fun u hu => by cases hu; rfl) (hΨ.keep (by decide) hnq (Fr.refl _ _))
    · have e25 := hG.val (v := .pointer (some ⟨k, 2, none⟩)) 2 25 (hd _ rfl ⟨2, .data⟩ (by simp) rfl) rfl rfl
      have c2 := (HB.out.1.grow (hΨ.world (by decide) hnq)).at 2 (v := .pointer (some ⟨bP, 0, none⟩)) rfl
      refine op_doC_in rfl (wanted_none rfl) hK (fun K' hK' => ?_)
      unfold Oper.wpIn
      go_simp
      exact hK' _ _ (fun u hu => by cases hu; rfl) (hΨ.keep (by decide) hnq (Fr.refl _ _))
    · have e5 := hG.old 5 (by kernel_rfl)
      have c2 := ((hΨ.world (by decide) hnq).blk HB.out.2.2 (by simp)).at 0 (v := .int .i64 p) rfl
      refine op_doC_in rfl (wanted_none rfl) hK (fun K' hK' => ?_)
      unfold Oper.wpIn
      go_simp
      exact hK' _ _ (fun u hu => by cases hu; rfl) (hΨ.keep (by decide) hnq (Fr.refl _ _))
    · have e26 := hG.val (v := .pointer (some ⟨bP, 0, none⟩)) 3 26 (hd _ rfl ⟨3, .data⟩ (by simp) rfl) rfl rfl
      have e27 := hG.val (v := .int .i64 p) 4 27 (hd _ rfl ⟨4, .data⟩ (by simp) rfl) rfl rfl
      have fq := hΨ.fr hnq
      have q4 := hd _ rfl ⟨4, .data⟩ (by simp) rfl
      have q3 := hd _ rfl ⟨3, .data⟩ (by simp) rfl
      have q2 := hG.closed 3 q3 _ rfl ⟨2, .data⟩ (by simp) rfl
      have q1 := hG.closed 2 q2 _ rfl ⟨1, .data⟩ (by simp) rfl
      have q0 := hG.closed 1 q1 _ rfl ⟨0, .data⟩ (by simp) rfl
      have qa : ∀ j, j < 5 → q j := fun j hj => by
        have : j = 0 ∨ j = 1 ∨ j = 2 ∨ j = 3 ∨ j = 4 := by omega
        rcases this with rfl | rfl | rfl | rfl | rfl <;> assumption
      refine op_doC_in rfl (wanted_none rfl) hK (fun K' hK' => ?_)
      unfold Oper.wpIn
      go_simp
      refine ⟨trivial, (callsIn_wide.2 (bdel_any W1 bP vP BP _ p (HB.out.2.1.grow fq))).mono ?_⟩
      rintro e W2 ⟨rfl, hb, f⟩
      exact hK' _ _ (fun u hu => by cases hu) (OnceP.last qa ⟨hb, (fq.mono (T := vP.ownBlock.toList) (by simp)).trans f (fun s hs => .inl hs)⟩)
  · intro vs q W1 hq hΨ hv
    have r0 : vs 0 = .pointer (some ⟨k, 0, none⟩) := hv 0 23 _ (by decide) rfl rfl
    have r1 : vs 1 = .pointer (some ⟨k, 0, none⟩) := hv 1 24 _ (by decide) rfl rfl
    have r2 : vs 2 = .pointer (some ⟨k, 2, none⟩) := hv 2 25 _ (by decide) rfl rfl
    have r3 : vs 3 = .pointer (some ⟨bP, 0, none⟩) := hv 3 26 _ (by decide) rfl rfl
    have r4 : vs 4 = .int .i64 p := hv 4 27 _ (by decide) rfl rfl
    simp only [lay, List.foldl_cons, List.foldl_nil, r0, r1, r2, r3, r4] at hΨ ⊢
    simp only [List.setIfInBounds_toArray, List.set_cons_zero, List.set_cons_succ] at hΨ ⊢
    clear hv r0 r1 r2 r3 r4
    generalize vs 5 = x5 at *
    obtain ⟨hbP, f3⟩ := (hΨ.dn (hq 5 (by decide))).2
    have HB3 := Lib.hid (And.intro hbP f3)
    obtain ⟨f12, hN2, ho2⟩ := HF2.out
    have n1 : ∀ s, s ∈ vP.ownBlock.toList → s < w.heap.size := fun s hs => HH.out.low s (HH.out.nP s (by simp at hs ⊢; exact .inr hs))
    have h3k : BkAt W1 k bO bN bP := f3.blk HB.out.1 (own_notin HB.out.2.1.own HB.out.1 (by decide))
    have h3p := f3.blk HB.out.2.2 (fun hm => by have := n1 _ hm; omega)
    have hN3 : TabN W1 bN u' (Fs.eraseIdx (rank Fs fe)) rN := hN2.fr f3 (own_notin HB.out.2.1.own hN2.hd (by decide)) (fun g hg hm => by
      obtain ⟨cc, hcc⟩ := own_blk hN2.own g (by simp [hg])
      exact own_ne HB.out.2.1.own (by simpa using hm) hcc (by decide) rfl)
    have f13 : Fr ((bN :: u.ownBlock.toList) ++ vP.ownBlock.toList) w W1 := (f12.mono (fun s hs => .inl (by simp at hs ⊢; rcases hs with h | h; exact .inl h; exact .inr (.inl h)))).trans f3 (fun s hs => .inl (by simp at hs ⊢; exact .inr (.inr hs)))
    have hO3 : TabO W1 bO v (Cs.map OC.pair) rO := by
      refine HH.out.hO.fr f13 (fun hm => ?_) (fun g hg hm => ?_)
      · rcases List.mem_append.1 hm with hm | hm
        · rcases List.mem_cons.1 hm with hm | hm
          · have hb := HH.out.hO.hd; rw [hm] at hb; have := hb.inj HH.out.hN.hd; simp at this
          · exact own_notin HH.out.hN.own HH.out.hO.hd (by decide) hm
        · exact own_notin hP0.own HH.out.hO.hd (by decide) hm
      · rcases List.mem_append.1 hm with hm | hm
        · rcases List.mem_cons.1 hm with hm | hm
          · exact own_ne HH.out.hO.own hg HH.out.hN.hd (by decide) hm.symm
          · obtain ⟨cc, hcc⟩ := own_blk HH.out.hN.own g (by simp at hm ⊢; exact hm)
            exact own_ne HH.out.hO.own hg hcc (by decide) rfl
        · obtain ⟨cc, hcc⟩ := own_blk hP0.own g (by simp at hm ⊢; exact hm)
          exact own_ne HH.out.hO.own hg hcc (by decide) rfl
    have hob : ∀ c ∈ Cs, ObAt W1 c.x c.bB c.id c.num c.t c.px c.py c.sp ∧ ∃ ws, BitsAt W1 c.bB c.vB c.B ws := fun c hc => by
      obtain ⟨hX, ⟨ws, hB⟩, hl⟩ := HH.out.ob c hc
      have hap := HH.out.sepP c hc
      refine ⟨f13.blk hX (fun hm => ?_), ws, hB.fr f13 (fun hm => ?_) (fun g hg hm => ?_)⟩
      · rcases List.mem_append.1 hm with hm | hm
        · rcases List.mem_cons.1 hm with hm | hm
          · have hb := hX; unfold ObAt at hb; rw [hm] at hb; have := hb.inj HH.out.hN.hd; simp at this
          · exact own_notin HH.out.hN.own hX (by decide) hm
        · exact own_notin hP0.own hX (by decide) hm
      · rcases List.mem_append.1 hm with hm | hm
        · rcases List.mem_cons.1 hm with hm | hm
          · have hb := hB.hd; rw [hm] at hb; have := hb.inj HH.out.hN.hd; simp at this
          · exact own_notin HH.out.hN.own hB.hd (by decide) hm
        · exact own_notin hP0.own hB.hd (by decide) hm
      · rcases List.mem_append.1 hm with hm | hm
        · rcases List.mem_cons.1 hm with hm | hm
          · exact own_ne hB.own hg HH.out.hN.hd (by decide) hm.symm
          · obtain ⟨cc, hcc⟩ := own_blk HH.out.hN.own g (by simp at hm ⊢; exact hm)
            exact own_ne hB.own hg hcc (by decide) rfl
        · exact hap.2 g hg (by simpa using hm)
    have H4 := Lib.hid (And.intro hN3 (And.intro ho2 (And.intro f13 (And.intro hob h3p))))
    have c0 := Blk.at h3k 0 (v := .pointer (some ⟨bO, 0, none⟩)) rfl
    have HO3 := Lib.hid hO3
    have hleW : w2.heap.size ≤ W1.heap.size := f3.size
    clear hq hΨ hbP f3 f12 hN2 ho2 n1 h3k h3p hN3 f13 hO3 hob g1 g2 g3 hP0
    gi_wp2
    refine ⟨trivial, (callsIn_wide.2 (allO_any W1 bO v _ _ HO3.out)).mono ?_⟩
    rintro e w4 ⟨bx, lv, rfl, hbx, hcp, hbx1, f4⟩
    have hHeld : OHeld bx lv (Cs.map OC.pair) w4 := ⟨hbx, hcp.1⟩
    obtain ⟨gq, hgq, hge⟩ := hcp.2
    have HK := Lib.hid (show ∀ j, j ∈ bx :: lv.ownBlock.toList → w.heap.size ≤ j ∧ j < w4.heap.size from fun j hj => by
      rcases List.mem_cons.1 hj with rfl | hj
      · exact ⟨by omega, hbx.lt⟩
      · have e1 : j = gq := by rw [hgq] at hj; simpa using hj
        subst e1
        exact ⟨by omega, own_lt hcp.1 hgq⟩)
    have h4 := H4.out
    have H5 := Lib.hid (show (∀ c ∈ Cs, ObAt w4 c.x c.bB c.id c.num c.t c.px c.py c.sp ∧ ∃ ws, BitsAt w4 c.bB c.vB c.B ws) ∧ Blk w4 bp #[.int .i64 p] 3 from ⟨fun c hc => ⟨f4.blk (h4.2.2.2.1 c hc).1 (by simp), (h4.2.2.2.1 c hc).2.imp fun ws hb => hb.grow f4⟩, f4.blk h4.2.2.2.2 (by simp)⟩)
    have HF4 := Lib.hid f4
    have HL := Lib.hid hHeld
    have hle4 : W1.heap.size ≤ w4.heap.size := f4.size
    have hlC : Cs.length ≤ 65536 := by have := HH.out.lC; have := HH.out.m0; omega
    clear h4 f4 hbx hcp hgq hge hHeld c0 hbx1
    gi_wp2
    refine wpIn_range_tm (w := w4) (ps := #[34, 35]) (encs := fun (x : {c // c ∈ Cs}) => #[.int .u32 x.1.pair.1, .pointer (some ⟨x.1.pair.2, 0, none⟩)]) rfl (by decide) (gf := 144) (lb := #[.pointer (some ⟨bx, 0, none⟩)]) rfl trivial (enters_of Tryd.func144 (by kernel_rfl) rfl)
      (allO_tells _ bx (w4.heap.size + 2) lv Cs OC.pair hlC) Kpb.trans (fun W l o o' hl h1 h2 => Kpb.put o' (fun hm => by have := HK.out _ hm; omega) (by omega)) (fun W hf _ => HL.out.fr0 hf) (fun W l o o' hl h1 h2 h3 => h3.kpb (Kpb.put o' (B := l + 1) (fun hm => by have := HK.out _ hm; omega) (by omega))) (by simp) (fun _ => rfl)
      (DrI w4 bp p Cs) (fun _ _ _ => False) (dr_ab _ _ _ _ _ (Nat.le_refl _)) (fun c s A B row h hg hr => h) ⟨Fr.refl _ _, H5.out.2, by simp, fun c hc _ => (H5.out.1 c hc).2⟩
      (fun tm x a' W => a' = { tmps := ((tm.setIfInBounds 34 (.int .u32 x.1.id)).setIfInBounds 35 (.pointer (some ⟨x.1.x, 0, none⟩))).setIfInBounds 8 (.pointer (some ⟨x.1.x, 0, none⟩)), defers := [] }) ?hAx ?hassign ?hbody ?hdone ?hstop
    case hAx => exact fun x a' s A A' row h hg hr => h
    case hassign =>
      intro l pre x W K hI hK
      have HKK := Lib.hid hK
      clear hK
      simp only [List.zip_toArray, Array.foldl, OC.pair]
      gi_wp2
      refine HKK.out _ _ (KeepsFrom.refl _ _) ⟨fun _ _ => rfl, KeepsFrom.refl _ _⟩ hI ?_
      rfl
    case hbody =>
      rintro l pre ⟨c, hc⟩ a' W hl - hI rfl hN
      dsimp only
      obtain ⟨B, ws, hB, hBd⟩ := hI.bits c hc
      have hX : ObAt W c.x c.bB c.id c.num c.t c.px c.py c.sp := hI.fr.blk (H5.out.1 c hc).1 (fun hm => by
        unfold rowsOf at hm
        obtain ⟨d, hd, hm⟩ := List.mem_flatMap.1 hm
        obtain ⟨ws, hD⟩ := (H5.out.1 d hd).2
        exact own_notin hD.own (H5.out.1 c hc).1 (by decide) hm)
      have hpc := hI.pc
      gi_wp2_with fail
      refine region_chg_in (by kernel_rfl) (by kernel_rfl) [some (.pointer (some ⟨c.x, 0, none⟩)), some (.pointer (some ⟨c.x, 0, none⟩)), some (.pointer (some ⟨c.x, 0, none⟩)), some (.pointer (some ⟨c.bB, 0, none⟩)), some (.int .i64 p), none] (OnceP W 5 (fun W2 => (∃ ws, BitsAt W2 c.bB c.vB (delB c.B p) ws) ∧ Fr c.vB.ownBlock.toList W W2)) 42 rfl (by kernel_rfl) [(0, 36), (1, 37), (2, 38), (3, 39), (4, 40), (5, 41)] (by kernel_rfl) (OnceP.start) ?_ ?_
      · intro q a1 W1 i hi hnq hd hG K hK
        have hlt : i < 6 := hi
        have hc : i = 0 ∨ i = 1 ∨ i = 2 ∨ i = 3 ∨ i = 4 ∨ i = 5 := by omega
        have hΨ := hG.world
        rcases hc with rfl | rfl | rfl | rfl | rfl | rfl
        · have e8 := hG.old 8 (by kernel_rfl)
          refine op_doC_in rfl (wanted_none rfl) hK (fun K' hK' => ?_)
          unfold Oper.wpIn
          go_simp
          exact hK' _ _ (fun u hu => by cases hu; rfl) (hΨ.keep (by decide) hnq (Fr.refl _ _))
        · have e36 := hG.val (v := .pointer (some ⟨c.x, 0, none⟩)) 0 36 (hd _ rfl ⟨0, .data⟩ (by simp) rfl) rfl rfl
          refine op_doC_in rfl (wanted_none rfl) hK (fun K' hK' => ?_)
          unfold Oper.wpIn
          go_simp
          exact hK' _ _ (fun u hu => by cases hu; rfl) (hΨ.keep (by decide) hnq (Fr.refl _ _))
        · have e37 := hG.val (v := .pointer (some ⟨c.x, 0, none⟩)) 1 37 (hd _ rfl ⟨1, .data⟩ (by simp) rfl) rfl rfl
          refine op_doC_in rfl (wanted_none rfl) hK (fun K' hK' => ?_)
          unfold Oper.wpIn
          go_simp
          exact hK' _ _ (fun u hu => by cases hu; rfl) (hΨ.keep (by decide) hnq (Fr.refl _ _))
        · have e38 := hG.val (v := .pointer (some ⟨c.x, 0, none⟩)) 2 38 (hd _ rfl ⟨2, .data⟩ (by simp) rfl) rfl rfl
          have c2 := ((hΨ.world (by decide) hnq).blk hX (by simp)).at 0 (v := .pointer (some ⟨c.bB, 0, none⟩)) rfl
          refine op_doC_in rfl (wanted_none rfl) hK (fun K' hK' => ?_)
          unfold Oper.wpIn
          go_simp
          exact hK' _ _ (fun u hu => by cases hu; rfl) (hΨ.keep (by decide) hnq (Fr.refl _ _))
        · have e5 := hG.old 5 (by kernel_rfl)
          have c2 := ((hΨ.world (by decide) hnq).blk hpc (by simp)).at 0 (v := .int .i64 p) rfl
          refine op_doC_in rfl (wanted_none rfl) hK (fun K' hK' => ?_)
          unfold Oper.wpIn
          go_simp
          exact hK' _ _ (fun u hu => by cases hu; rfl) (hΨ.keep (by decide) hnq (Fr.refl _ _))
        · have e39 := hG.val (v := .pointer (some ⟨c.bB, 0, none⟩)) 3 39 (hd _ rfl ⟨3, .data⟩ (by simp) rfl) rfl rfl
          have e40 := hG.val (v := .int .i64 p) 4 40 (hd _ rfl ⟨4, .data⟩ (by simp) rfl) rfl rfl
          have fq := hΨ.fr hnq
          have q4 := hd _ rfl ⟨4, .data⟩ (by simp) rfl
          have q3 := hd _ rfl ⟨3, .data⟩ (by simp) rfl
          have q2 := hG.closed 3 q3 _ rfl ⟨2, .data⟩ (by simp) rfl
          have q1 := hG.closed 2 q2 _ rfl ⟨1, .data⟩ (by simp) rfl
          have q0 := hG.closed 1 q1 _ rfl ⟨0, .data⟩ (by simp) rfl
          have qa : ∀ j, j < 5 → q j := fun j hj => by
            have : j = 0 ∨ j = 1 ∨ j = 2 ∨ j = 3 ∨ j = 4 := by omega
            rcases this with rfl | rfl | rfl | rfl | rfl <;> assumption
          refine op_doC_in rfl (wanted_none rfl) hK (fun K' hK' => ?_)
          unfold Oper.wpIn
          go_simp
          refine ⟨trivial, (callsIn_wide.2 (bdel_any W1 c.bB c.vB B ws p (hB.grow fq))).mono ?_⟩
          rintro e W2 ⟨rfl, hb, f⟩
          rw [hBd] at hb
          exact hK' _ _ (fun u hu => by cases hu) (OnceP.last qa ⟨hb, (fq.mono (T := c.vB.ownBlock.toList) (by simp)).trans f (fun s hs => .inl hs)⟩)
      · intro vs q W1 hq hΨ hv
        have r0 : vs 0 = .pointer (some ⟨c.x, 0, none⟩) := hv 0 36 _ (by decide) rfl rfl
        have r1 : vs 1 = .pointer (some ⟨c.x, 0, none⟩) := hv 1 37 _ (by decide) rfl rfl
        have r2 : vs 2 = .pointer (some ⟨c.x, 0, none⟩) := hv 2 38 _ (by decide) rfl rfl
        have r3 : vs 3 = .pointer (some ⟨c.bB, 0, none⟩) := hv 3 39 _ (by decide) rfl rfl
        have r4 : vs 4 = .int .i64 p := hv 4 40 _ (by decide) rfl rfl
        simp only [lay, List.foldl_cons, List.foldl_nil, r0, r1, r2, r3, r4] at hΨ ⊢
        simp only [List.setIfInBounds_toArray, List.set_cons_zero, List.set_cons_succ] at hΨ ⊢
        clear hv r0 r1 r2 r3 r4
        generalize vs 5 = x5 at *
        obtain ⟨⟨ws', hb⟩, f3⟩ := (hΨ.dn (hq 5 (by decide))).2
        have hI2 := hI.next HH.out.sep c hc hB hb f3
        have hrow := own_blk hB.own
        have hT : ∀ j, j ∈ bx :: lv.ownBlock.toList → j < W.heap.size ∧ j ∉ c.vB.ownBlock.toList := fun j hj => by
          have := HK.out j hj
          refine ⟨Nat.lt_of_lt_of_le this.2 hI.fr.size, fun hm => ?_⟩
          have h1 := HH.out.nC c hc j (by simp [OC.blks]; simp at hm; exact .inr (.inr hm))
          have h2 := HH.out.low j h1
          omega
        gi_wp2
        exact ⟨kf_of_fr _ f3 (fun j hj => (hrow j hj).imp fun cc hcc => ⟨_, hcc⟩), Kpb.of_fr _ f3 hT (fun j hj => (hrow j hj).imp fun cc hcc => ⟨_, hcc⟩), hI2⟩
    case hstop =>
      rintro D cc pre W hD hp hI
      exact hI.elim
    case hdone =>
      rintro D xs W hD rfl hI hen hK
      have hfin : ∀ c ∈ Cs, ∃ ws, BitsAt W c.bB c.vB (delB c.B p) ws := fun c hc => hI.done ⟨c, hc⟩ (by simp)
      have hi := hI.fr
      have hne : bp ≠ D := fun e => by have := HB.out.2.2.lt; omega
      gi_wp2
      obtain ⟨hN3, ho3, f13, hob, hpc⟩ := H4.out
      have hN4 := hN3.grow HF4.out
      have hwD : w.heap.size ≤ D := by omega
      have hkD : ∀ {b c e}, Blk W b c e → Blk (W.putObj D (.deferred none)) b c e := fun hb => Blk.putObj hb hK rfl _
      have nrow : ∀ {b : Nat} {cc : Array Value} {e : TypeId}, Blk w4 b cc e → e ≠ 96 → b ∉ rowsOf Cs := fun hb he hm => by
        unfold rowsOf at hm
        obtain ⟨d, hd, hm⟩ := List.mem_flatMap.1 hm
        obtain ⟨ws, hD⟩ := (H5.out.1 d hd).2
        exact own_notin hD.own hb (Ne.symm he) hm
      obtain ⟨⟨wP', hP3⟩, -⟩ := HB3.out
      have hP4 := hP3.grow HF4.out
      have hP5 : BitsAt W bP vP (delB BP p) wP' := hP4.fr hi (nrow hP4.hd (by decide)) (fun g hg hm => by
        unfold rowsOf at hm
        obtain ⟨d, hd, hm⟩ := List.mem_flatMap.1 hm
        exact (HH.out.sepP d hd).2 g (by simpa using hm) hg)
      have hN5 : TabN W bN u' (Fs.eraseIdx (rank Fs fe)) rN := hN4.fr hi (nrow hN4.hd (by decide)) (fun g hg hm => by
        obtain ⟨cc, hcc⟩ := own_blk hN4.own g (by simp [hg])
        exact nrow hcc (by decide) hm)
      refine ⟨by simp, .inl ⟨_, _, rfl, run_takeDeferred hK, ?_⟩⟩
      refine ⟨.bool true, by simp [results, Tryd.results122, go_sem], rfl, ⟨u', ⟨hkD hN5.hd, own_putObj hN5.own hK rfl _, hN5.nn, hN5.up, hN5.ids, hN5.lim⟩, ho3⟩, ⟨wP', ⟨hkD hP5.hd, own_putObj hP5.own hK rfl _, hP5.nn, hP5.len, hP5.lt, hP5.bits, hP5.lim⟩⟩, fun c hc => ?_, ?_⟩
      · obtain ⟨ws, hb⟩ := hfin c hc
        exact ⟨ws, ⟨hkD hb.hd, own_putObj hb.own hK rfl _, hb.nn, hb.len, hb.lt, hb.bits, hb.lim⟩⟩
      · exact (((f13.mono (fun s hs => .inl (by simp at hs ⊢; rcases hs with h | h | h; exact .inl h; exact .inr (.inl h); exact .inr (.inr (.inl h))))).trans HF4.out (by simp)).trans hi (fun s hs => .inl (by simp [hs]))).putObj _ _ hwD
end Go.Proofs.YtgoolkgjcmdilaaDoor
end
section
namespace Go.Proofs.YtgoolkgjcmdilaaDoor
open Go.RowKit
set_option linter.unusedVariables false
set_option linter.unusedSimpArgs false
structure AppStep (w W W1 : World) (n4 b o : Nat) (cs : Array Value) (e e' size m : Nat) (ys : List Value) (v v' : Value) (w1 : World) : Prop where
  cell : w1.cell? ⟨b, o, none⟩ = some v
  free : w1.frozen? ⟨b, o, none⟩ = false
  blk : Blk w1 b cs e
  fr : Fr (b :: v.ownBlock.toList) W (w1.setCell ⟨b, o, none⟩ v')
  old : ∀ j, j ∈ b :: v.ownBlock.toList → (j = b ∨ n4 ≤ j) ∧ ∃ c e, Blk W j c e
  new : Blk (w1.setCell ⟨b, o, none⟩ v') b (cs.setIfInBounds o v') e
  row : RowNew w e' size (w1.setCell ⟨b, o, none⟩ v') v' m ys
  low : ∀ g, v'.ownBlock = some g → n4 ≤ g
  fr1 : Fr v.ownBlock.toList W w1
  fr0 : Fr v.ownBlock.toList W1 w1
theorem app_step0 {w W W1 w1 : World} {n4 b o : Nat} {cs : Array Value} {e e' size n m : Nat} {xs ys : List Value} {v v' : Value} (hb : Blk W b cs e) (hv : cs[o]? = some v) (hrow : RowNew w e' size W v n xs)
    (hge : ∀ g, v.ownBlock = some g → n4 ≤ g) (hbn : b < n4) (hn4 : n4 ≤ W.heap.size) (hwb : w.heap.size ≤ b) (F0 : Fr [] W W1) (happ : Appended W1 e' size v m ys v' w1) : AppStep w W W1 n4 b o cs e e' size m ys v v' w1 := by
  have hnb : b ∉ v.ownBlock.toList := fun hm => by have := hge b (by simpa using hm); omega
  have F1 : Fr v.ownBlock.toList W w1 := (F0.mono (by simp)).trans happ.fr (fun s hs => .inl hs)
  have hb1 := F1.blk hb hnb
  have hlow : ∀ g, v'.ownBlock = some g → n4 ≤ g := fun g hg => by
    rcases happ.place with q | q
    · exact hge g (by rw [← q]; exact hg)
    · rw [q] at hg
      cases hg
      have := F0.size
      omega
  have hnb' : b ∉ v'.ownBlock.toList := fun hm => by have := hlow b (by simpa using hm); omega
  have f2 : Fr [b] w1 (w1.setCell ⟨b, o, none⟩ v') := (Fr.refl _ _).setCell _ _ (.inl (by simp))
  have F2 : Fr (b :: v.ownBlock.toList) W (w1.setCell ⟨b, o, none⟩ v') := (F1.mono (fun s hs => .inl (List.mem_cons_of_mem _ hs))).trans f2 (fun s hs => .inl (by simp at hs; simp [hs]))
  have hold : ∀ j, j ∈ b :: v.ownBlock.toList → (j = b ∨ n4 ≤ j) ∧ ∃ c e, Blk W j c e := fun j hj => by
    rcases List.mem_cons.1 hj with rfl | hj
    · exact ⟨.inl rfl, _, _, hb⟩
    · obtain ⟨c, hc⟩ := own_blk hrow.own j hj
      exact ⟨.inr (hge j (by simpa using hj)), c, _, hc⟩
  refine ⟨hb1.at o hv, hb1.free o, hb1, F2, hold, hb1.set o v', ⟨own_fr happ.own f2 (fun g hg hm => ?_), fun g hg => ?_, hrow.fr.trans F2 (fun j hj => .inr ?_)⟩, hlow, F1, happ.fr⟩
  · simp at hm
    subst hm
    exact hnb' (by simp [hg])
  · have := hlow g hg
    have := hrow.fr.size
    omega
  · rcases (hold j hj).1 with q | q
    · omega
    · have := hrow.fr.size
      omega
theorem app_step {w W W1 w1 : World} {n4 b o : Nat} {cs : Array Value} {e e' size n m : Nat} {xs ys : List Value} {v v' : Value} {ob : Obj} (hb : Blk W b cs e) (hv : cs[o]? = some v) (hrow : RowNew w e' size W v n xs)
    (hge : ∀ g, v.ownBlock = some g → n4 ≤ g) (hbn : b < n4) (hn4 : n4 ≤ W.heap.size) (hwb : w.heap.size ≤ b) (f1 : Fr [] W W1) (happ : Appended (W1.alloc ob) e' size v m ys v' w1) : AppStep w W (W1.alloc ob) n4 b o cs e e' size m ys v v' w1 :=
  app_step0 hb hv hrow hge hbn hn4 hwb (f1.alloc _) happ
end Go.Proofs.YtgoolkgjcmdilaaDoor
end
