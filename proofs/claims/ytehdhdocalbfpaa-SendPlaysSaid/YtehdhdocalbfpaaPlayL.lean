/-
  made: both senders as they stood; by contracts. The lists that were handed in are written over.
-/
import Derived.Test.YtehdhdocalbfpaaPlayK
namespace Go.Proofs.Ytehdhdocalbfpaa
open Go.RowKit ring
set_option linter.unusedVariables false
attribute [local go_sem ↓] Go.wp_at_zero Go.wp_at_succ newVar56
attribute [local go_sem] ev_layEv_same can_new run_storeEv0 run_newEv run_newEv' run_storeEv9

theorem Src.of_own {w : World} {e size n : Nat} {v : Value} {xs : List Value} (h : w.ownsRow 0 e size v n xs) : Src w v n size xs := by
  rcases h.2 with ⟨rfl, rfl⟩ | ⟨g, cap, cur, rfl, _⟩
  · refine .inl ⟨rfl, rfl, List.eq_nil_of_length_eq_zero (by simpa using h.1)⟩
  · exact .inr ⟨_, cap, rfl, h.1, h.cells rfl⟩
theorem app_new {w w1 w3 : World} {e size n : Nat} {v : Value} {xs : List Value} (f1 : Fr [] w w1) (ha : Appended w1 e size (.slice none 0 0) (0 + n) ([] ++ xs) v w3) : w3.ownsRow 0 e size v n xs ∧ (∀ g, v.ownBlock = some g → w.heap.size ≤ g) ∧ Fr [] w w3 := by
  have hown := ha.own
  rw [Nat.zero_add, List.nil_append] at hown
  refine ⟨hown, fun g hg => ?_, f1.trans ha.fr (by simp [Value.ownBlock])⟩
  rcases ha.place with hp | hp
  · rw [hp] at hg; simp [Value.ownBlock] at hg
  · rw [hp] at hg; simp at hg; have := f1.size; omega
theorem fr_part {S : List Nat} {w W W' : World} {g : Nat} (h : Fr S w W) (f : Fr [g] W W') (hg : g ∈ S) : Fr S w W' := h.trans f (fun x hx => .inl (by simp at hx; subst hx; exact hg))
/-- Two lists of one's own, whatever they hold. -/
def Mine (W : World) (bv av : Value) (n m : Nat) : Prop := (∃ ys, W.ownsRow 0 56 8 bv n ys) ∧ ∃ zs, W.ownsRow 0 51 1 av m zs
theorem Mine.fr0 {W W' : World} {bv av : Value} {n m : Nat} (h : Mine W bv av n m) (f : Fr [] W W') : Mine W' bv av n m := by
  obtain ⟨⟨ys, h1⟩, zs, h2⟩ := h
  exact ⟨⟨ys, own_fr h1 f (by simp)⟩, zs, own_fr h2 f (by simp)⟩
theorem Mine.lay {W : World} {av : Value} {g n m cap : Nat} (h : Mine W (.slice (some ⟨g, 0, none⟩) n cap) av n m) (o : Nat) (e : Ev) : Mine (layEv W g o e) (.slice (some ⟨g, 0, none⟩) n cap) av n m := by
  obtain ⟨⟨ys, h1⟩, zs, h2⟩ := h
  refine ⟨own_lay h1 o e, zs, own_fr h2 ((Fr.refl [g] W).setEv o e (.inl (by simp))) (fun k hk hm => ?_)⟩
  obtain ⟨c, hc⟩ := own_blk h1 g (by simp [Value.ownBlock])
  simp at hm
  exact own_ne h2 hk hc (by decide) hm.symm
theorem Mine.set {W : World} {bv : Value} {a n m cap : Nat} (h : Mine W bv (.slice (some ⟨a, 0, none⟩) m cap) n m) (i : Nat) (u : Value) : Mine (W.setCell ⟨a, i, none⟩ u) bv (.slice (some ⟨a, 0, none⟩) m cap) n m := by
  obtain ⟨⟨ys, h1⟩, zs, h2⟩ := h
  refine ⟨⟨ys, own_fr h1 ((Fr.refl [a] W).setCell _ u (.inl (by simp))) (fun k hk hm => ?_)⟩, _, (h2.stored i u).1⟩
  obtain ⟨c, hc⟩ := own_blk h2 a (by simp [Value.ownBlock])
  simp at hm
  exact own_ne h1 hk hc (by decide) hm.symm
theorem Both.frX {w w1 w2 : World} {S T X : List Nat} {sb rb win tmo most acked : Nat} {L : List Ev} {A : List Int} (h : Both w w1 S T sb rb win tmo most acked L A) (f : Fr X w1 w2) (hx : ∀ b ∈ X, w.heap.size ≤ b) (hS : ∀ b ∈ S, b ∉ X) (hT : ∀ b ∈ T, b ∉ X) : Both w w2 S T sb rb win tmo most acked L A :=
  ⟨h.1.fr f hS, h.2.1.fr f hT, h.2.2.1, h.2.2.2.1, h.2.2.2.2.1, h.2.2.2.2.2.trans f (fun b hb => .inr (hx b hb))⟩
set_option maxRecDepth 100000 in
set_option maxHeartbeats 1000000 in
theorem made_no2 (w : World) (a b c ac : Int) (pb pa : Option Addr) (n m cb ca : Nat) (L : List Ev) (A : List Int) (hn : n = L.length) (hm : m = A.length) (hnb : n ≤ 3518437208832) (hmb : m ≤ 35184372088832)
    (hb : RdE w (.slice pb n cb) L) (ha : RdU w (.slice pa m ca) A) (hbs : Src w (.slice pb n cb) n 8 (evs L)) (has : Src w (.slice pa m ca) m 1 (u32s A)) (h : a < 1 ∨ 32 < a ∨ b < 1 ∨ 1000 < b ∨ c < 1 ∨ 256 < c) :
    Calls Try.prog 27 #[.agg #[.bool true, .int .i64 a, .int .i64 b, .int .i64 c, .int .u64 ac, .slice pb n cb, .slice pa m ca]] w fun e w' => e = .returned (.tuple #[.pointer none, .pointer none, .bool true]) ∧ Fr [] w w' := by
  have fa := (Fr.refl [] w).alloc (.cells #[.bool true, .int .i64 a, .int .i64 b, .int .i64 c, .int .u64 ac, .slice pb n cb, .slice pa m ca] 45)
  have hB := Blk.new w #[.bool true, .int .i64 a, .int .i64 b, .int .i64 c, .int .u64 ac, .slice pb n cb, .slice pa m ca] 45
  have d0 := hB.at 0 (v := .bool true) rfl
  have d5 := hB.at 5 (v := .slice pb n cb) rfl
  have HF := Lib.hid (And.intro fa (And.intro hB (And.intro hb (And.intro ha (And.intro hbs (And.intro has (And.intro hn (And.intro hm (h))))))))) 
  clear hn hm hb ha hbs has fa hB h
  go_enter Try.func27, Try.ntmps27
  go_wp2_with (first
    | (at_builtin; refine wpList_src _ rfl _ _ 42 rfl 56 Ev.zero.val 8 40 Try.underlying42 info56b rfl (by decide) (.slice none 0 0) 0 [] rfl (World.ownsRow_nil _ _ _ _) _ n (evs L) rfl (HF.out.2.2.2.2.1.fr0 HF.out.1) (evs_one _) (by unfold maxLen; omega) (by omega) ?_; intro bv w2 happ; obtain ⟨r1, r2, r3⟩ := app_new HF.out.1 happ; obtain ⟨p1, cc1, rfl⟩ := own_form r1; have hB2 := happ.fr.blk HF.out.2.1 (by simp [Value.ownBlock]); have d6 := hB2.at 6 (v := .slice pa m ca) rfl; have H2 := Lib.hid (And.intro r1 (And.intro r2 (And.intro r3 hB2))); clear r1 r2 r3 happ hB2 d0 d5)
    | (at_builtin; refine wpList_src _ rfl _ _ 43 rfl 51 (.int .u32 0) 1 4 Try.underlying43 info51 rfl (by decide) (.slice none 0 0) 0 [] rfl (World.ownsRow_nil _ _ _ _) _ m (u32s A) rfl (HF.out.2.2.2.2.2.1.fr0 H2.out.2.2.1) (u32s_one _) (by unfold maxLen; omega) (by omega) ?_; intro av w3 happ; obtain ⟨r1, r2, r3⟩ := app_new H2.out.2.2.1 happ; obtain ⟨p2, cc2, rfl⟩ := own_form r1; have hB3 := happ.fr.blk H2.out.2.2.2 (by simp [Value.ownBlock]); have e1 := hB3.at 1 (v := .int .i64 a) rfl; have e2 := hB3.at 2 (v := .int .i64 b) rfl; have e3 := hB3.at 3 (v := .int .i64 c) rfl; have e4 := hB3.at 4 (v := .int .u64 ac) rfl; have H3 := Lib.hid (And.intro r1 (And.intro r2 (And.intro r3 (And.intro hB3 (own_fr H2.out.1 happ.fr (by simp [Value.ownBlock])))))); clear r1 r2 r3 happ hB3 d6)
    | (go_at_call 33; refine (sfrom_no2 w3 a b c ac _ _ _ _ _ _ HF.out.2.2.2.2.2.2.2.2).mono ?_; rintro e w4 ⟨rfl, rfl⟩; have f4 := Fr.refl [] w3; have hB4 := f4.blk H3.out.2.2.2.1 (by simp); have g1 := hB4.at 1 (v := .int .i64 a) rfl; have g2 := hB4.at 2 (v := .int .i64 b) rfl; have g3 := hB4.at 3 (v := .int .i64 c) rfl; have g4 := hB4.at 4 (v := .int .u64 ac) rfl; have g5 := hB4.at 5 (v := .slice pb n cb) rfl; have g6 := hB4.at 6 (v := .slice pa m ca) rfl; have H4 := Lib.hid (And.intro hB4 (And.intro f4 trivial)); clear hB4 f4  e1 e2 e3 e4)
    | (go_at_call 63; refine (rfrom_no2 w3 a b c ac _ _ _ _ _ _ HF.out.2.2.2.2.2.2.2.2).mono ?_; rintro e w5 ⟨rfl, rfl⟩; have f5 := Fr.refl [] w3; have hB5 := f5.blk H4.out.1 (by simp); have k5 := hB5.at 5 (v := .slice pb n cb) rfl; have k6 := hB5.at 6 (v := .slice pa m ca) rfl; have H5 := Lib.hid (And.intro hB5 (And.intro f5 trivial)); clear hB5 f5  g1 g2 g3 g4 g5 g6)
    | (go_at_call 64; refine (events_same _ _ _ L (by have := HF.out.2.2.2.2.2.2.1; omega) (RdE.of_own (L := L) (by have := HF.out.2.2.2.2.2.2.1; rw [← this]; exact own_fr (own_fr H3.out.2.2.2.2 H4.out.2.1 (by simp)) H5.out.2.1 (by simp))) (HF.out.2.2.1.fr0 ((H3.out.2.2.1.trans H4.out.2.1 (by simp)).trans H5.out.2.1 (by simp)))).mono ?_; rintro e w6 ⟨rfl, f6⟩; have hB6 := f6.blk H5.out.1 (by simp); have l6 := hB6.at 6 (v := .slice pa m ca) rfl; have H6 := Lib.hid (And.intro hB6 f6); clear hB6 f6 k5 k6)
    | (go_at_call 65; refine (clocks_same _ _ _ A (by have := HF.out.2.2.2.2.2.2.2.1; omega) (RdU.of_own (A := A) (by have := HF.out.2.2.2.2.2.2.2.1; rw [← this]; exact own_fr (own_fr (own_fr H3.out.1 H4.out.2.1 (by simp)) H5.out.2.1 (by simp)) H6.out.2 (by simp))) (HF.out.2.2.2.1.fr0 (((H3.out.2.2.1.trans H4.out.2.1 (by simp)).trans H5.out.2.1 (by simp)).trans H6.out.2 (by simp)))).mono ?_; rintro e w7 ⟨rfl, f7⟩; have H7 := Lib.hid f7; clear f7 l6))
  have FB := Lib.hid ((H4.out.2.1.trans H5.out.2.1 (by simp)).trans (H6.out.2.trans H7.out (by simp)) (by simp))
  have HM : Mine w7 (.slice p1 n cc1) (.slice p2 m cc2) n m := ⟨⟨_, own_fr H3.out.2.2.2.2 FB.out (by simp)⟩, _, own_fr H3.out.1 FB.out (by simp)⟩
  have HM0 := Lib.hid HM
  clear HM
  have HG := Lib.hid (show (∀ g, p1 = some ⟨g, 0, none⟩ → w.heap.size ≤ g ∧ g < w3.heap.size) ∧ (∀ g, p2 = some ⟨g, 0, none⟩ → w.heap.size ≤ g ∧ g < w3.heap.size) from ⟨fun g hg => by subst hg; exact ⟨H2.out.2.1 g rfl, own_lt H3.out.2.2.2.2 rfl⟩, fun g hg => by subst hg; exact ⟨H3.out.2.1 g rfl, own_lt H3.out.1 rfl⟩⟩)
  go_loopw [15] (fun i wr => ∃ k : Nat, i = .int .i64 k ∧ k ≤ n ∧ Mine wr (.slice p1 n cc1) (.slice p2 m cc2) n m ∧ Fr ((Value.slice p1 n cc1).ownBlock.toList ++ (Value.slice p2 m cc2).ownBlock.toList) w7 wr) (fun i _ => n - (intOf i).toNat)
  case atStart => exact ⟨0, rfl, Nat.zero_le _, HM0.out, Fr.refl _ _⟩
  case round =>
    obtain ⟨k, rfl, hk, hM, hfr⟩ := hrel
    obtain ⟨wi, rfl⟩ : ∃ wi : World, wi = wr := ⟨_, rfl⟩
    by_cases hlt : k < n
    · obtain ⟨g, rfl⟩ : ∃ g, p1 = some ⟨g, 0, none⟩ := by
        obtain ⟨⟨ys, h1⟩, -⟩ := hM
        rcases h1.2 with ⟨_, h9⟩ | ⟨g, cap9, cur, h9, _⟩
        · omega
        · simp at h9; exact ⟨g, h9.1⟩
      have q1 : can8 wi g (k * 8) = true := by obtain ⟨⟨ys, h1⟩, -⟩ := hM; exact own_can8 h1 hlt
      have j1 : (0 : Int) ≤ (k : Int) := by omega
      have j2 : (k : Int) < (n : Int) := by omega
      have HK := Lib.hid (And.intro (hM.lay (k * 8) ⟨0, 9999, 0, 0, 0, 0, 0, 0⟩) (fr_part hfr (Fr.setEv (g := g) (Fr.refl [g] wi) (k * 8) ⟨0, 9999, 0, 0, 0, 0, 0, 0⟩ (.inl (by simp))) (by simp [Value.ownBlock])))
      clear hM hfr
      go_wp2_with fail
      first
        | (refine ⟨⟨k + 1, by go_num, by omega, HK.out⟩, ?_⟩
           simp [intOf]; omega)
        | (go_roundw
           case rel => exact ⟨k + 1, by go_num, by omega, HK.out⟩
           case measure => simp [intOf]; omega)
    · obtain rfl : k = n := by omega
      have HK := Lib.hid (And.intro hM hfr)
      clear hM hfr
      go_wp2_with fail
      go_loopw [16] (fun i wr => ∃ j : Nat, i = .int .i64 j ∧ j ≤ m ∧ Mine wr (.slice p1 k cc1) (.slice p2 m cc2) k m ∧ Fr ((Value.slice p1 k cc1).ownBlock.toList ++ (Value.slice p2 m cc2).ownBlock.toList) w7 wr) (fun i _ => m - (intOf i).toNat)
      case atStart => exact ⟨0, rfl, Nat.zero_le _, HK.out⟩
      case round =>
        obtain ⟨j, rfl, hj, hM, hfr⟩ := hrel
        obtain ⟨wj, rfl⟩ : ∃ wj : World, wj = wr := ⟨_, rfl⟩
        by_cases hlt2 : j < m
        · obtain ⟨g, rfl⟩ : ∃ g, p2 = some ⟨g, 0, none⟩ := by
            obtain ⟨-, zs, h1⟩ := hM
            rcases h1.2 with ⟨_, h9⟩ | ⟨g, cap9, cur, h9, _⟩
            · omega
            · simp at h9; exact ⟨g, h9.1⟩
          obtain ⟨u, q1⟩ : ∃ u, wj.cell? ⟨g, j, none⟩ = some u := by obtain ⟨-, zs, h1⟩ := hM; exact own_c1 h1 hlt2
          have q2 : wj.frozen? ⟨g, j, none⟩ = false := by obtain ⟨-, zs, h1⟩ := hM; exact h1.frozenAt j
          have j1 : (0 : Int) ≤ (j : Int) := by omega
          have j2 : (j : Int) < (m : Int) := by omega
          have HK2 := Lib.hid (And.intro (hM.set j (.int .u32 9999)) (fr_part hfr ((Fr.refl [g] wj).setCell ⟨g, j, none⟩ (.int .u32 9999) (.inl (by simp))) (by simp [Value.ownBlock])))
          clear hM hfr
          go_wp2_with fail
          first
            | (refine ⟨⟨j + 1, by go_num, by omega, HK2.out⟩, ?_⟩
               simp [intOf]; omega)
            | (go_roundw
               case rel => exact ⟨j + 1, by go_num, by omega, HK2.out⟩
               case measure => simp [intOf]; omega)
        · obtain rfl : j = m := by omega
          have HK2 := Lib.hid (And.intro hM hfr)
          clear hM hfr
          go_wp2_with fail
          go_ret3
          exact ⟨rfl, (H3.out.2.2.1.trans FB.out (by simp)).trans HK2.out.2 (fun x hx => .inr (by
            rw [List.mem_append] at hx
            rcases hx with hx | hx
            · exact H2.out.2.1 x (by simpa using hx)
            · exact H3.out.2.1 x (by simpa using hx)))⟩
set_option maxRecDepth 100000 in
set_option maxHeartbeats 1000000 in
theorem made_no3 (w : World) (win tmo most acked : Nat) (pb pa : Option Addr) (n m cb ca : Nat) (L : List Ev) (A : List Int) (hn : n = L.length) (hm : m = A.length) (hnb : n ≤ 3518437208832) (hmb : m ≤ 35184372088832)
    (hb : RdE w (.slice pb n cb) L) (ha : RdU w (.slice pa m ca) A) (hbs : Src w (.slice pb n cb) n 8 (evs L)) (has : Src w (.slice pa m ca) m 1 (u32s A)) (h1 : 1 ≤ win ∧ win ≤ 32) (h2 : 1 ≤ tmo ∧ tmo ≤ 1000) (h3 : 1 ≤ most ∧ most ≤ 256) (h4 : acked < 18446744073709551616) (h : most < n ∨ n < m ∨ win < m ∨ 18446744073709551616 ≤ acked + n) :
    Calls Try.prog 27 #[.agg #[.bool true, .int .i64 win, .int .i64 tmo, .int .i64 most, .int .u64 acked, .slice pb n cb, .slice pa m ca]] w fun e w' => e = .returned (.tuple #[.pointer none, .pointer none, .bool true]) ∧ Fr [] w w' := by
  have fa := (Fr.refl [] w).alloc (.cells #[.bool true, .int .i64 win, .int .i64 tmo, .int .i64 most, .int .u64 acked, .slice pb n cb, .slice pa m ca] 45)
  have hB := Blk.new w #[.bool true, .int .i64 win, .int .i64 tmo, .int .i64 most, .int .u64 acked, .slice pb n cb, .slice pa m ca] 45
  have d0 := hB.at 0 (v := .bool true) rfl
  have d5 := hB.at 5 (v := .slice pb n cb) rfl
  have HF := Lib.hid (And.intro fa (And.intro hB (And.intro hb (And.intro ha (And.intro hbs (And.intro has (And.intro hn (And.intro hm (And.intro h1 (And.intro h2 (And.intro h3 (And.intro h4 h)))))))))))) 
  clear hn hm hb ha hbs has fa hB h1 h2 h3 h4 h
  go_enter Try.func27, Try.ntmps27
  go_wp2_with (first
    | (at_builtin; refine wpList_src _ rfl _ _ 42 rfl 56 Ev.zero.val 8 40 Try.underlying42 info56b rfl (by decide) (.slice none 0 0) 0 [] rfl (World.ownsRow_nil _ _ _ _) _ n (evs L) rfl (HF.out.2.2.2.2.1.fr0 HF.out.1) (evs_one _) (by unfold maxLen; omega) (by omega) ?_; intro bv w2 happ; obtain ⟨r1, r2, r3⟩ := app_new HF.out.1 happ; obtain ⟨p1, cc1, rfl⟩ := own_form r1; have hB2 := happ.fr.blk HF.out.2.1 (by simp [Value.ownBlock]); have d6 := hB2.at 6 (v := .slice pa m ca) rfl; have H2 := Lib.hid (And.intro r1 (And.intro r2 (And.intro r3 hB2))); clear r1 r2 r3 happ hB2 d0 d5)
    | (at_builtin; refine wpList_src _ rfl _ _ 43 rfl 51 (.int .u32 0) 1 4 Try.underlying43 info51 rfl (by decide) (.slice none 0 0) 0 [] rfl (World.ownsRow_nil _ _ _ _) _ m (u32s A) rfl (HF.out.2.2.2.2.2.1.fr0 H2.out.2.2.1) (u32s_one _) (by unfold maxLen; omega) (by omega) ?_; intro av w3 happ; obtain ⟨r1, r2, r3⟩ := app_new H2.out.2.2.1 happ; obtain ⟨p2, cc2, rfl⟩ := own_form r1; have hB3 := happ.fr.blk H2.out.2.2.2 (by simp [Value.ownBlock]); have e1 := hB3.at 1 (v := .int .i64 win) rfl; have e2 := hB3.at 2 (v := .int .i64 tmo) rfl; have e3 := hB3.at 3 (v := .int .i64 most) rfl; have e4 := hB3.at 4 (v := .int .u64 acked) rfl; have H3 := Lib.hid (And.intro r1 (And.intro r2 (And.intro r3 (And.intro hB3 (own_fr H2.out.1 happ.fr (by simp [Value.ownBlock])))))); clear r1 r2 r3 happ hB3 d6)
    | (go_at_call 33; refine (sfrom_no3 w3 win tmo most acked _ _ n _ m _ HF.out.2.2.2.2.2.2.2.2.1 HF.out.2.2.2.2.2.2.2.2.2.1 HF.out.2.2.2.2.2.2.2.2.2.2.1 HF.out.2.2.2.2.2.2.2.2.2.2.2.1 (by omega) HF.out.2.2.2.2.2.2.2.2.2.2.2.2).mono ?_; rintro e w4 ⟨rfl, f4⟩; have hB4 := f4.blk H3.out.2.2.2.1 (by simp); have g1 := hB4.at 1 (v := .int .i64 win) rfl; have g2 := hB4.at 2 (v := .int .i64 tmo) rfl; have g3 := hB4.at 3 (v := .int .i64 most) rfl; have g4 := hB4.at 4 (v := .int .u64 acked) rfl; have g5 := hB4.at 5 (v := .slice pb n cb) rfl; have g6 := hB4.at 6 (v := .slice pa m ca) rfl; have H4 := Lib.hid (And.intro hB4 (And.intro f4 trivial)); clear hB4 f4  e1 e2 e3 e4)
    | (go_at_call 63; refine (rfrom_no3 w4 win tmo most acked _ _ n _ m _ HF.out.2.2.2.2.2.2.2.2.1 HF.out.2.2.2.2.2.2.2.2.2.1 HF.out.2.2.2.2.2.2.2.2.2.2.1 HF.out.2.2.2.2.2.2.2.2.2.2.2.1 (by omega) HF.out.2.2.2.2.2.2.2.2.2.2.2.2).mono ?_; rintro e w5 ⟨rfl, rfl⟩; have f5 := Fr.refl [] w4; have hB5 := f5.blk H4.out.1 (by simp); have k5 := hB5.at 5 (v := .slice pb n cb) rfl; have k6 := hB5.at 6 (v := .slice pa m ca) rfl; have H5 := Lib.hid (And.intro hB5 (And.intro f5 trivial)); clear hB5 f5  g1 g2 g3 g4 g5 g6)
    | (go_at_call 64; refine (events_same _ _ _ L (by have := HF.out.2.2.2.2.2.2.1; omega) (RdE.of_own (L := L) (by have := HF.out.2.2.2.2.2.2.1; rw [← this]; exact own_fr (own_fr H3.out.2.2.2.2 H4.out.2.1 (by simp)) H5.out.2.1 (by simp))) (HF.out.2.2.1.fr0 ((H3.out.2.2.1.trans H4.out.2.1 (by simp)).trans H5.out.2.1 (by simp)))).mono ?_; rintro e w6 ⟨rfl, f6⟩; have hB6 := f6.blk H5.out.1 (by simp); have l6 := hB6.at 6 (v := .slice pa m ca) rfl; have H6 := Lib.hid (And.intro hB6 f6); clear hB6 f6 k5 k6)
    | (go_at_call 65; refine (clocks_same _ _ _ A (by have := HF.out.2.2.2.2.2.2.2.1; omega) (RdU.of_own (A := A) (by have := HF.out.2.2.2.2.2.2.2.1; rw [← this]; exact own_fr (own_fr (own_fr H3.out.1 H4.out.2.1 (by simp)) H5.out.2.1 (by simp)) H6.out.2 (by simp))) (HF.out.2.2.2.1.fr0 (((H3.out.2.2.1.trans H4.out.2.1 (by simp)).trans H5.out.2.1 (by simp)).trans H6.out.2 (by simp)))).mono ?_; rintro e w7 ⟨rfl, f7⟩; have H7 := Lib.hid f7; clear f7 l6))
  have FB := Lib.hid ((H4.out.2.1.trans H5.out.2.1 (by simp)).trans (H6.out.2.trans H7.out (by simp)) (by simp))
  have HM : Mine w7 (.slice p1 n cc1) (.slice p2 m cc2) n m := ⟨⟨_, own_fr H3.out.2.2.2.2 FB.out (by simp)⟩, _, own_fr H3.out.1 FB.out (by simp)⟩
  have HM0 := Lib.hid HM
  clear HM
  have HG := Lib.hid (show (∀ g, p1 = some ⟨g, 0, none⟩ → w.heap.size ≤ g ∧ g < w3.heap.size) ∧ (∀ g, p2 = some ⟨g, 0, none⟩ → w.heap.size ≤ g ∧ g < w3.heap.size) from ⟨fun g hg => by subst hg; exact ⟨H2.out.2.1 g rfl, own_lt H3.out.2.2.2.2 rfl⟩, fun g hg => by subst hg; exact ⟨H3.out.2.1 g rfl, own_lt H3.out.1 rfl⟩⟩)
  go_loopw [15] (fun i wr => ∃ k : Nat, i = .int .i64 k ∧ k ≤ n ∧ Mine wr (.slice p1 n cc1) (.slice p2 m cc2) n m ∧ Fr ((Value.slice p1 n cc1).ownBlock.toList ++ (Value.slice p2 m cc2).ownBlock.toList) w7 wr) (fun i _ => n - (intOf i).toNat)
  case atStart => exact ⟨0, rfl, Nat.zero_le _, HM0.out, Fr.refl _ _⟩
  case round =>
    obtain ⟨k, rfl, hk, hM, hfr⟩ := hrel
    obtain ⟨wi, rfl⟩ : ∃ wi : World, wi = wr := ⟨_, rfl⟩
    by_cases hlt : k < n
    · obtain ⟨g, rfl⟩ : ∃ g, p1 = some ⟨g, 0, none⟩ := by
        obtain ⟨⟨ys, h1⟩, -⟩ := hM
        rcases h1.2 with ⟨_, h9⟩ | ⟨g, cap9, cur, h9, _⟩
        · omega
        · simp at h9; exact ⟨g, h9.1⟩
      have q1 : can8 wi g (k * 8) = true := by obtain ⟨⟨ys, h1⟩, -⟩ := hM; exact own_can8 h1 hlt
      have j1 : (0 : Int) ≤ (k : Int) := by omega
      have j2 : (k : Int) < (n : Int) := by omega
      have HK := Lib.hid (And.intro (hM.lay (k * 8) ⟨0, 9999, 0, 0, 0, 0, 0, 0⟩) (fr_part hfr (Fr.setEv (g := g) (Fr.refl [g] wi) (k * 8) ⟨0, 9999, 0, 0, 0, 0, 0, 0⟩ (.inl (by simp))) (by simp [Value.ownBlock])))
      clear hM hfr
      go_wp2_with fail
      first
        | (refine ⟨⟨k + 1, by go_num, by omega, HK.out⟩, ?_⟩
           simp [intOf]; omega)
        | (go_roundw
           case rel => exact ⟨k + 1, by go_num, by omega, HK.out⟩
           case measure => simp [intOf]; omega)
    · obtain rfl : k = n := by omega
      have HK := Lib.hid (And.intro hM hfr)
      clear hM hfr
      go_wp2_with fail
      go_loopw [16] (fun i wr => ∃ j : Nat, i = .int .i64 j ∧ j ≤ m ∧ Mine wr (.slice p1 k cc1) (.slice p2 m cc2) k m ∧ Fr ((Value.slice p1 k cc1).ownBlock.toList ++ (Value.slice p2 m cc2).ownBlock.toList) w7 wr) (fun i _ => m - (intOf i).toNat)
      case atStart => exact ⟨0, rfl, Nat.zero_le _, HK.out⟩
      case round =>
        obtain ⟨j, rfl, hj, hM, hfr⟩ := hrel
        obtain ⟨wj, rfl⟩ : ∃ wj : World, wj = wr := ⟨_, rfl⟩
        by_cases hlt2 : j < m
        · obtain ⟨g, rfl⟩ : ∃ g, p2 = some ⟨g, 0, none⟩ := by
            obtain ⟨-, zs, h1⟩ := hM
            rcases h1.2 with ⟨_, h9⟩ | ⟨g, cap9, cur, h9, _⟩
            · omega
            · simp at h9; exact ⟨g, h9.1⟩
          obtain ⟨u, q1⟩ : ∃ u, wj.cell? ⟨g, j, none⟩ = some u := by obtain ⟨-, zs, h1⟩ := hM; exact own_c1 h1 hlt2
          have q2 : wj.frozen? ⟨g, j, none⟩ = false := by obtain ⟨-, zs, h1⟩ := hM; exact h1.frozenAt j
          have j1 : (0 : Int) ≤ (j : Int) := by omega
          have j2 : (j : Int) < (m : Int) := by omega
          have HK2 := Lib.hid (And.intro (hM.set j (.int .u32 9999)) (fr_part hfr ((Fr.refl [g] wj).setCell ⟨g, j, none⟩ (.int .u32 9999) (.inl (by simp))) (by simp [Value.ownBlock])))
          clear hM hfr
          go_wp2_with fail
          first
            | (refine ⟨⟨j + 1, by go_num, by omega, HK2.out⟩, ?_⟩
               simp [intOf]; omega)
            | (go_roundw
               case rel => exact ⟨j + 1, by go_num, by omega, HK2.out⟩
               case measure => simp [intOf]; omega)
        · obtain rfl : j = m := by omega
          have HK2 := Lib.hid (And.intro hM hfr)
          clear hM hfr
          go_wp2_with fail
          go_ret3
          exact ⟨rfl, (H3.out.2.2.1.trans FB.out (by simp)).trans HK2.out.2 (fun x hx => .inr (by
            rw [List.mem_append] at hx
            rcases hx with hx | hx
            · exact H2.out.2.1 x (by simpa using hx)
            · exact H3.out.2.1 x (by simpa using hx)))⟩
set_option maxRecDepth 100000 in
set_option maxHeartbeats 1000000 in
theorem made_ok (w : World) (win tmo most acked : Nat) (pb pa : Option Addr) (n m cb ca : Nat) (L : List Ev) (A : List Int) (hn : n = L.length) (hm : m = A.length) (hnb : n ≤ 3518437208832) (hmb : m ≤ 35184372088832)
    (hb : RdE w (.slice pb n cb) L) (ha : RdU w (.slice pa m ca) A) (hbs : Src w (.slice pb n cb) n 8 (evs L)) (has : Src w (.slice pa m ca) m 1 (u32s A)) (h1 : 1 ≤ win ∧ win ≤ 32) (h2 : 1 ≤ tmo ∧ tmo ≤ 1000) (h3 : 1 ≤ most ∧ most ≤ 256) (h4 : acked + n < 18446744073709551616) (h5 : n ≤ most) (h6 : m ≤ n) (h7 : m ≤ win) :
    Calls Try.prog 27 #[.agg #[.bool true, .int .i64 win, .int .i64 tmo, .int .i64 most, .int .u64 acked, .slice pb n cb, .slice pa m ca]] w fun e w' => ∃ S T sb rb, e = .returned (.tuple #[.pointer (some ⟨sb, 0, none⟩), .pointer (some ⟨rb, 0, none⟩), .bool true]) ∧ Both w w' S T sb rb win tmo most acked L A := by
  have fa := (Fr.refl [] w).alloc (.cells #[.bool true, .int .i64 win, .int .i64 tmo, .int .i64 most, .int .u64 acked, .slice pb n cb, .slice pa m ca] 45)
  have hB := Blk.new w #[.bool true, .int .i64 win, .int .i64 tmo, .int .i64 most, .int .u64 acked, .slice pb n cb, .slice pa m ca] 45
  have d0 := hB.at 0 (v := .bool true) rfl
  have d5 := hB.at 5 (v := .slice pb n cb) rfl
  have HF := Lib.hid (And.intro fa (And.intro hB (And.intro hb (And.intro ha (And.intro hbs (And.intro has (And.intro hn (And.intro hm (And.intro h1 (And.intro h2 (And.intro h3 (And.intro h4 (And.intro h5 (And.intro h6 h7)))))))))))))) 
  clear hn hm hb ha hbs has fa hB h1 h2 h3 h4 h5 h6 h7
  go_enter Try.func27, Try.ntmps27
  go_wp2_with (first
    | (at_builtin; refine wpList_src _ rfl _ _ 42 rfl 56 Ev.zero.val 8 40 Try.underlying42 info56b rfl (by decide) (.slice none 0 0) 0 [] rfl (World.ownsRow_nil _ _ _ _) _ n (evs L) rfl (HF.out.2.2.2.2.1.fr0 HF.out.1) (evs_one _) (by unfold maxLen; omega) (by omega) ?_; intro bv w2 happ; obtain ⟨r1, r2, r3⟩ := app_new HF.out.1 happ; obtain ⟨p1, cc1, rfl⟩ := own_form r1; have hB2 := happ.fr.blk HF.out.2.1 (by simp [Value.ownBlock]); have d6 := hB2.at 6 (v := .slice pa m ca) rfl; have H2 := Lib.hid (And.intro r1 (And.intro r2 (And.intro r3 hB2))); clear r1 r2 r3 happ hB2 d0 d5)
    | (at_builtin; refine wpList_src _ rfl _ _ 43 rfl 51 (.int .u32 0) 1 4 Try.underlying43 info51 rfl (by decide) (.slice none 0 0) 0 [] rfl (World.ownsRow_nil _ _ _ _) _ m (u32s A) rfl (HF.out.2.2.2.2.2.1.fr0 H2.out.2.2.1) (u32s_one _) (by unfold maxLen; omega) (by omega) ?_; intro av w3 happ; obtain ⟨r1, r2, r3⟩ := app_new H2.out.2.2.1 happ; obtain ⟨p2, cc2, rfl⟩ := own_form r1; have hB3 := happ.fr.blk H2.out.2.2.2 (by simp [Value.ownBlock]); have e1 := hB3.at 1 (v := .int .i64 win) rfl; have e2 := hB3.at 2 (v := .int .i64 tmo) rfl; have e3 := hB3.at 3 (v := .int .i64 most) rfl; have e4 := hB3.at 4 (v := .int .u64 acked) rfl; have H3 := Lib.hid (And.intro r1 (And.intro r2 (And.intro r3 (And.intro hB3 (own_fr H2.out.1 happ.fr (by simp [Value.ownBlock])))))); clear r1 r2 r3 happ hB3 d6)
    | (go_at_call 33; obtain ⟨q1, q2, h1, h2, h3, h4, h5, h6, h7⟩ := HF.out.2.2.2.2.2.2; refine (sfrom_ok w3 win tmo most acked _ _ L A h1 h2 h3 (by omega) (by omega) (by omega) (by omega) (RdE.of_own (L := L) (by rw [← q1]; exact H3.out.2.2.2.2)) (Src.of_own (by rw [← q2]; exact H3.out.1))).mono ?_; clear q1 q2 h1 h2 h3 h4 h5 h6 h7; rintro e w4 ⟨S, sb, rfl, s4, t4, f4⟩; have hB4 := f4.blk H3.out.2.2.2.1 (by simp); have g1 := hB4.at 1 (v := .int .i64 win) rfl; have g2 := hB4.at 2 (v := .int .i64 tmo) rfl; have g3 := hB4.at 3 (v := .int .i64 most) rfl; have g4 := hB4.at 4 (v := .int .u64 acked) rfl; have g5 := hB4.at 5 (v := .slice pb n cb) rfl; have g6 := hB4.at 6 (v := .slice pa m ca) rfl; have H4 := Lib.hid (And.intro hB4 (And.intro f4 (And.intro s4 t4))); clear hB4 f4 s4 t4 e1 e2 e3 e4)
    | (go_at_call 63; obtain ⟨q1, q2, h1, h2, h3, h4, h5, h6, h7⟩ := HF.out.2.2.2.2.2.2; refine (rfrom_ok w4 win tmo most acked _ _ L A h1 h2 h3 (by omega) (by omega) (by omega) (by omega) (by rw [← q1]; exact HF.out.2.2.2.2.1.fr0 (H3.out.2.2.1.trans H4.out.2.1 (by simp))) (by rw [← q2]; exact HF.out.2.2.2.2.2.1.fr0 (H3.out.2.2.1.trans H4.out.2.1 (by simp)))).mono ?_; clear q1 q2 h1 h2 h3 h4 h5 h6 h7; rintro e w5 ⟨T, rb, rfl, r5, t5, f5⟩; have hB5 := f5.blk H4.out.1 (by simp); have k5 := hB5.at 5 (v := .slice pb n cb) rfl; have k6 := hB5.at 6 (v := .slice pa m ca) rfl; have H5 := Lib.hid (And.intro hB5 (And.intro f5 (And.intro r5 t5))); clear hB5 f5 r5 t5 g1 g2 g3 g4 g5 g6)
    | (go_at_call 64; refine (events_same _ _ _ L (by have := HF.out.2.2.2.2.2.2.1; omega) (RdE.of_own (L := L) (by have := HF.out.2.2.2.2.2.2.1; rw [← this]; exact own_fr (own_fr H3.out.2.2.2.2 H4.out.2.1 (by simp)) H5.out.2.1 (by simp))) (HF.out.2.2.1.fr0 ((H3.out.2.2.1.trans H4.out.2.1 (by simp)).trans H5.out.2.1 (by simp)))).mono ?_; rintro e w6 ⟨rfl, f6⟩; have hB6 := f6.blk H5.out.1 (by simp); have l6 := hB6.at 6 (v := .slice pa m ca) rfl; have H6 := Lib.hid (And.intro hB6 f6); clear hB6 f6 k5 k6)
    | (go_at_call 65; refine (clocks_same _ _ _ A (by have := HF.out.2.2.2.2.2.2.2.1; omega) (RdU.of_own (A := A) (by have := HF.out.2.2.2.2.2.2.2.1; rw [← this]; exact own_fr (own_fr (own_fr H3.out.1 H4.out.2.1 (by simp)) H5.out.2.1 (by simp)) H6.out.2 (by simp))) (HF.out.2.2.2.1.fr0 (((H3.out.2.2.1.trans H4.out.2.1 (by simp)).trans H5.out.2.1 (by simp)).trans H6.out.2 (by simp)))).mono ?_; rintro e w7 ⟨rfl, f7⟩; have H7 := Lib.hid f7; clear f7 l6))
  have FB := Lib.hid ((H4.out.2.1.trans H5.out.2.1 (by simp)).trans (H6.out.2.trans H7.out (by simp)) (by simp))
  have HM : Mine w7 (.slice p1 n cc1) (.slice p2 m cc2) n m := ⟨⟨_, own_fr H3.out.2.2.2.2 FB.out (by simp)⟩, _, own_fr H3.out.1 FB.out (by simp)⟩
  have HM0 := Lib.hid HM
  clear HM
  have HG := Lib.hid (show (∀ g, p1 = some ⟨g, 0, none⟩ → w.heap.size ≤ g ∧ g < w3.heap.size) ∧ (∀ g, p2 = some ⟨g, 0, none⟩ → w.heap.size ≤ g ∧ g < w3.heap.size) from ⟨fun g hg => by subst hg; exact ⟨H2.out.2.1 g rfl, own_lt H3.out.2.2.2.2 rfl⟩, fun g hg => by subst hg; exact ⟨H3.out.2.1 g rfl, own_lt H3.out.1 rfl⟩⟩)
  go_loopw [15] (fun i wr => ∃ k : Nat, i = .int .i64 k ∧ k ≤ n ∧ Mine wr (.slice p1 n cc1) (.slice p2 m cc2) n m ∧ Fr ((Value.slice p1 n cc1).ownBlock.toList ++ (Value.slice p2 m cc2).ownBlock.toList) w7 wr) (fun i _ => n - (intOf i).toNat)
  case atStart => exact ⟨0, rfl, Nat.zero_le _, HM0.out, Fr.refl _ _⟩
  case round =>
    obtain ⟨k, rfl, hk, hM, hfr⟩ := hrel
    obtain ⟨wi, rfl⟩ : ∃ wi : World, wi = wr := ⟨_, rfl⟩
    by_cases hlt : k < n
    · obtain ⟨g, rfl⟩ : ∃ g, p1 = some ⟨g, 0, none⟩ := by
        obtain ⟨⟨ys, h1⟩, -⟩ := hM
        rcases h1.2 with ⟨_, h9⟩ | ⟨g, cap9, cur, h9, _⟩
        · omega
        · simp at h9; exact ⟨g, h9.1⟩
      have q1 : can8 wi g (k * 8) = true := by obtain ⟨⟨ys, h1⟩, -⟩ := hM; exact own_can8 h1 hlt
      have j1 : (0 : Int) ≤ (k : Int) := by omega
      have j2 : (k : Int) < (n : Int) := by omega
      have HK := Lib.hid (And.intro (hM.lay (k * 8) ⟨0, 9999, 0, 0, 0, 0, 0, 0⟩) (fr_part hfr (Fr.setEv (g := g) (Fr.refl [g] wi) (k * 8) ⟨0, 9999, 0, 0, 0, 0, 0, 0⟩ (.inl (by simp))) (by simp [Value.ownBlock])))
      clear hM hfr
      go_wp2_with fail
      first
        | (refine ⟨⟨k + 1, by go_num, by omega, HK.out⟩, ?_⟩
           simp [intOf]; omega)
        | (go_roundw
           case rel => exact ⟨k + 1, by go_num, by omega, HK.out⟩
           case measure => simp [intOf]; omega)
    · obtain rfl : k = n := by omega
      have HK := Lib.hid (And.intro hM hfr)
      clear hM hfr
      go_wp2_with fail
      go_loopw [16] (fun i wr => ∃ j : Nat, i = .int .i64 j ∧ j ≤ m ∧ Mine wr (.slice p1 k cc1) (.slice p2 m cc2) k m ∧ Fr ((Value.slice p1 k cc1).ownBlock.toList ++ (Value.slice p2 m cc2).ownBlock.toList) w7 wr) (fun i _ => m - (intOf i).toNat)
      case atStart => exact ⟨0, rfl, Nat.zero_le _, HK.out⟩
      case round =>
        obtain ⟨j, rfl, hj, hM, hfr⟩ := hrel
        obtain ⟨wj, rfl⟩ : ∃ wj : World, wj = wr := ⟨_, rfl⟩
        by_cases hlt2 : j < m
        · obtain ⟨g, rfl⟩ : ∃ g, p2 = some ⟨g, 0, none⟩ := by
            obtain ⟨-, zs, h1⟩ := hM
            rcases h1.2 with ⟨_, h9⟩ | ⟨g, cap9, cur, h9, _⟩
            · omega
            · simp at h9; exact ⟨g, h9.1⟩
          obtain ⟨u, q1⟩ : ∃ u, wj.cell? ⟨g, j, none⟩ = some u := by obtain ⟨-, zs, h1⟩ := hM; exact own_c1 h1 hlt2
          have q2 : wj.frozen? ⟨g, j, none⟩ = false := by obtain ⟨-, zs, h1⟩ := hM; exact h1.frozenAt j
          have j1 : (0 : Int) ≤ (j : Int) := by omega
          have j2 : (j : Int) < (m : Int) := by omega
          have HK2 := Lib.hid (And.intro (hM.set j (.int .u32 9999)) (fr_part hfr ((Fr.refl [g] wj).setCell ⟨g, j, none⟩ (.int .u32 9999) (.inl (by simp))) (by simp [Value.ownBlock])))
          clear hM hfr
          go_wp2_with fail
          first
            | (refine ⟨⟨j + 1, by go_num, by omega, HK2.out⟩, ?_⟩
               simp [intOf]; omega)
            | (go_roundw
               case rel => exact ⟨j + 1, by go_num, by omega, HK2.out⟩
               case measure => simp [intOf]; omega)
        · obtain rfl : j = m := by omega
          have HK2 := Lib.hid (And.intro hM hfr)
          clear hM hfr
          go_wp2_with fail
          go_ret3
          refine ⟨S, T, sb, rb, rfl, (((both_of (H3.out.2.2.1.trans H4.out.2.1 (by simp)) H4.out.2.2.1 (fun b hb => Nat.le_trans H3.out.2.2.1.size (H4.out.2.2.2 b hb)) H5.out.2.2.1 H5.out.2.2.2 H5.out.2.1).then0 H6.out.2).then0 H7.out).frX HK2.out.2 (fun b hb => ?_) (fun b hb hx => ?_) (fun b hb hx => ?_)⟩
          · rw [List.mem_append] at hb
            rcases hb with hb | hb
            · exact H2.out.2.1 b (by simpa using hb)
            · exact H3.out.2.1 b (by simpa using hb)
          · have h8 := H4.out.2.2.2 b hb
            rw [List.mem_append] at hx
            rcases hx with hx | hx
            · have := own_lt H3.out.2.2.2.2 (by simpa using hx); omega
            · have := own_lt H3.out.1 (by simpa using hx); omega
          · have h8 := H5.out.2.2.2 b hb
            have h9 := H4.out.2.1.size
            rw [List.mem_append] at hx
            rcases hx with hx | hx
            · have := own_lt H3.out.2.2.2.2 (by simpa using hx); omega
            · have := own_lt H3.out.1 (by simpa using hx); omega

end Go.Proofs.Ytehdhdocalbfpaa
