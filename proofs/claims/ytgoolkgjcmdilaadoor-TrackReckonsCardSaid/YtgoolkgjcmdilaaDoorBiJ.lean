/-
  bit: a step's answer is the document's.
-/
import Derived.Test.YtgoolkgjcmdilaaDoorBiI
namespace Go.Proofs.YtgoolkgjcmdilaaDoor
open Go.RowKit
set_option linter.unusedVariables false
set_option linter.unusedSimpArgs false
attribute [local go_sem] Oper.semAt_some

/-- A set and the document's. -/
structure PB (b m : Nat) (v u : Value) (B : List Bool) (W : World) : Prop where
  set : ∃ ws, BitsAt W b v B ws
  ref : RefB W m u B
theorem PB.grow {b m : Nat} {v u : Value} {B : List Bool} {W W' : World} (h : PB b m v u B W) (f : Fr [] W W') : PB b m v u B W' := by
  obtain ⟨ws, h1⟩ := h.set
  exact ⟨⟨ws, h1.grow f⟩, h.ref.grow f⟩
theorem hasB_bound {B : List Bool} {i : Int} (h : ¬ (0 ≤ i ∧ i < (B.length : Int))) : hasB B i = false := by
  cases hh : hasB B i with
  | false => rfl
  | true =>
    obtain ⟨m, rfl, hm⟩ := hasB_in hh
    exact absurd ⟨by omega, by omega⟩ h
theorem add_any (w : World) (b : Nat) (v : Value) (B : List Bool) (ws : List Nat) (i : Int) (h : BitsAt w b v B ws) : Calls Tryd.prog 34 #[.pointer (some ⟨b, 0, none⟩), .int .i64 i] w fun e w' => e = .returned (.bool (addA B i)) ∧ (∃ ws', BitsAt w' b v (addB B i) ws') ∧ Fr v.ownBlock.toList w w' := by
  unfold addB
  by_cases h1 : 0 ≤ i ∧ i < (B.length : Int)
  · cases hb : hasB B i with
    | true =>
      have ha : addA B i = false := by unfold addA; rw [hb]; simp
      rw [ha, if_neg (by decide)]
      refine (add_not w b v B ws i h (.inr hb)).mono fun e w' hp => ?_
      obtain ⟨he, rfl⟩ := hp
      exact ⟨he, ⟨ws, h⟩, Fr.refl _ _⟩
    | false =>
      have ha : addA B i = true := by unfold addA; rw [hb, decide_eq_true h1]; rfl
      rw [ha, if_pos rfl]
      obtain ⟨m, rfl⟩ : ∃ m : Nat, i = m := ⟨i.toNat, by omega⟩
      rw [hasB_nat] at hb
      rw [Int.toNat_natCast]
      refine (add_new w b v B ws m h (by omega) hb).mono fun e w' hp => ?_
      obtain ⟨he, ws', h2, h3⟩ := hp
      exact ⟨he, ⟨ws', h2⟩, h3⟩
  · have ha : addA B i = false := by unfold addA; rw [decide_eq_false h1]; rfl
    rw [ha, if_neg (by decide)]
    refine (add_not w b v B ws i h (.inl h1)).mono fun e w' hp => ?_
    obtain ⟨he, rfl⟩ := hp
    exact ⟨he, ⟨ws, h⟩, Fr.refl _ _⟩
theorem bdel_any (w : World) (b : Nat) (v : Value) (B : List Bool) (ws : List Nat) (i : Int) (h : BitsAt w b v B ws) : Calls Tryd.prog 80 #[.pointer (some ⟨b, 0, none⟩), .int .i64 i] w fun e w' => e = .returned (.bool (hasB B i)) ∧ (∃ ws', BitsAt w' b v (delB B i) ws') ∧ Fr v.ownBlock.toList w w' := by
  unfold delB
  cases hb : hasB B i with
  | true =>
    rw [if_pos rfl]
    obtain ⟨m, rfl, hm⟩ := hasB_in hb
    rw [hasB_nat] at hb
    rw [Int.toNat_natCast]
    refine (bdel_yes w b v B ws m h hm hb).mono fun e w' hp => ?_
    obtain ⟨he, ws', h2, h3⟩ := hp
    exact ⟨he, ⟨ws', h2⟩, h3⟩
  | false =>
    rw [if_neg (by decide)]
    refine (bdel_not w b v B ws i h hb).mono fun e w' hp => ?_
    obtain ⟨he, rfl⟩ := hp
    exact ⟨he, ⟨ws, h⟩, Fr.refl _ _⟩
theorem notin_set {W : World} {b : Nat} {v : Value} {B : List Bool} {ws : List Nat} (h : BitsAt W b v B ws) {k : Nat} {c : Array Value} {e : TypeId} (hk : Blk W k c e) (h2 : e ≠ 96) : k ∉ v.ownBlock.toList := own_notin h.own hk (Ne.symm h2)
theorem notin_refb {W : World} {m : Nat} {u : Value} {B : List Bool} (h : RefB W m u B) {k : Nat} {c : Array Value} {e : TypeId} (hk : Blk W k c e) (h2 : e ≠ 4) : k ∉ u.ownBlock.toList := own_notin h.own hk (Ne.symm h2)
theorem own_ne3 {w : World} {e e' : TypeId} {s s' k k' g : Nat} {v v' : Value} {xs xs' : List Value} (h : w.ownsRow 0 e s v k xs) (h' : w.ownsRow 0 e' s' v' k' xs') (hn : e ≠ e') (hg : v.ownBlock = some g) : g ∉ v'.ownBlock.toList := by
  obtain ⟨c, hc⟩ := own_blk h g (by simp [hg])
  exact own_notin h' hc (Ne.symm hn)
theorem RefB.beside {W W' : World} {b m : Nat} {v u : Value} {B C : List Bool} {ws : List Nat} (h : RefB W m u C) (hb : BitsAt W b v B ws) (f : Fr v.ownBlock.toList W W') : RefB W' m u C :=
  h.fr f (notin_set hb h.hd (by decide)) (fun g hg => own_ne3 h.own hb.own (by decide) hg)
theorem BitsAt.beside {W W' : World} {b m : Nat} {v u : Value} {B C : List Bool} {ws : List Nat} (h : BitsAt W b v B ws) (hm : RefB W m u C) (f : Fr u.ownBlock.toList W W') : BitsAt W' b v B ws :=
  h.fr f (notin_refb hm h.hd (by decide)) (fun g hg => own_ne3 h.own hm.own (by decide) hg)
def BitPost (w : World) (b m : Nat) (v u : Value) (B' : List Bool) (e : Ending) (w' : World) : Prop :=
  e = .returned (.bool true) ∧ PB b m v u B' w' ∧ Fr (v.ownBlock.toList ++ u.ownBlock.toList) w w'
def Stab.fst (B : List Bool) (k : Nat) (c : Bool) : Stab := ⟨fun v _ => ∃ a, v = .int .i64 a ∧ FirstAt B k c a, fun _ _ _ _ h => h⟩
/-- In the midst of a region that changes both. -/
structure RgB (w1 : World) (b m : Nat) (v u : Value) (B B' : List Bool) (p : Nat → Prop) (tm : Nat → Option Value) (W : World) : Prop where
  fr : Fr (v.ownBlock.toList ++ u.ownBlock.toList) w1 W
  s0 : ¬ p 3 → ∃ ws, BitsAt W b v B ws
  s1 : p 3 → ∃ ws, BitsAt W b v B' ws
  r0 : ¬ p 7 → RefB W m u B
  r1 : p 7 → RefB W m u B'
theorem RgB.keep {w1 W W' : World} {b m : Nat} {v u : Value} {B B' : List Bool} {p : Nat → Prop} {tm tm' : Nat → Option Value} (h : RgB w1 b m v u B B' p tm W) {i : Nat} (h3 : 3 ≠ i) (h7 : 7 ≠ i) (f : Fr [] W W') : RgB w1 b m v u B B' (fun k => p k ∨ k = i) tm' W' := by
  refine ⟨h.fr.trans f (by simp), fun hn => ?_, fun hp => ?_, fun hn => (h.r0 (fun hp => hn (.inl hp))).grow f, fun hp => (h.r1 (hp.resolve_right h7)).grow f⟩
  · obtain ⟨ws, q⟩ := h.s0 (fun hp => hn (.inl hp))
    exact ⟨ws, q.grow f⟩
  · obtain ⟨ws, q⟩ := h.s1 (hp.resolve_right h3)
    exact ⟨ws, q.grow f⟩
/-- Whatever set there is, this one is a set still. -/
theorem RgB.rset {w1 W : World} {b m : Nat} {v u : Value} {B B' : List Bool} {p : Nat → Prop} {tm : Nat → Option Value} (h : RgB w1 b m v u B B' p tm W) : ∃ C ws, BitsAt W b v C ws := by
  by_cases hp : p 3
  · obtain ⟨ws, q⟩ := h.s1 hp; exact ⟨_, _, q⟩
  · obtain ⟨ws, q⟩ := h.s0 hp; exact ⟨_, _, q⟩
theorem RgB.rref {w1 W : World} {b m : Nat} {v u : Value} {B B' : List Bool} {p : Nat → Prop} {tm : Nat → Option Value} (h : RgB w1 b m v u B B' p tm W) : ∃ C, RefB W m u C := by
  by_cases hp : p 7
  · exact ⟨_, h.r1 hp⟩
  · exact ⟨_, h.r0 hp⟩
theorem deB_fr2 {w W : World} (h : DeB w) (f : Fr [] w W) : DeB W := fun i hi => (f.cell (World.block_lt_of_cell? w _ (h i hi)) (by simp)).trans (h i hi)
set_option maxRecDepth 100000 in
set_option maxHeartbeats 4000000 in
theorem bit_add (w : World) (b c m n : Nat) (v u v2 u2 : Value) (B C : List Bool) (onn wi i : Int) (h1 : PB b m v u B w) (h2 : PB c n v2 u2 C w) (hT : DeB w) :
    Calls Tryd.prog 30 #[.pointer (some ⟨b, 0, none⟩), .pointer (some ⟨c, 0, none⟩), .pointer (some ⟨m, 0, none⟩), .pointer (some ⟨n, 0, none⟩), .agg #[.int .i64 0, .int .i64 onn, .int .i64 wi, .int .i64 i]] w (BitPost w b m v u (addB B i)) := by
  have hb1 := Blk.new w #[.int .i64 0, .int .i64 onn, .int .i64 wi, .int .i64 i] 86
  have f01 : Fr [] w (w.alloc (.cells #[.int .i64 0, .int .i64 onn, .int .i64 wi, .int .i64 i] 86)) := (Fr.refl [] w).alloc _
  have d0 := hb1.at 0 (v := .int .i64 0) rfl
  have d3 := hb1.at 3 (v := .int .i64 i) rfl
  have HH := Lib.hid (And.intro h1 (And.intro h2 (And.intro f01 (And.intro hb1 hT))))
  clear f01 h1 h2 hb1 hT
  go_enter Tryd.func30, Tryd.ntmps30
  go_wp2_with fail
  obtain ⟨h1, h2, f01, hb1, hT⟩ := HH.out
  clear HH d0 d3
  obtain ⟨w1, hw1⟩ : ∃ w1, w.alloc (.cells #[.int .i64 0, .int .i64 onn, .int .i64 wi, .int .i64 i] 86) = w1 := ⟨_, rfl⟩
  obtain ⟨bx, hbx⟩ : ∃ bx, bx = w.heap.size := ⟨_, rfl⟩
  rw [← hbx] at hb1 ⊢
  rw [hw1] at hb1 f01 ⊢
  have hP := h1.grow f01
  have hQ := h2.grow f01
  have HP := Lib.hid (And.intro hP (And.intro hQ (And.intro f01 (And.intro hb1 (deB_fr2 hT f01)))))
  clear hP hQ f01 h1 h2 hw1 hbx hT
  refine region_chg (by kernel_rfl) (by kernel_rfl) [some (.pointer (some ⟨b, 0, none⟩)), some (.pointer (some ⟨bx, 3, none⟩)), some (.int .i64 i), some (.bool (addA B i)), some (.pointer (some ⟨m, 0, none⟩)), some (.pointer (some ⟨bx, 3, none⟩)), some (.int .i64 i), some (.bool (addA B i)), some (.bool true), some (.bool true)] (RgB w1 b m v u B (addB B i)) 142 rfl (by kernel_rfl) [(0, 17), (1, 18), (2, 19), (3, 20), (4, 21), (5, 22), (6, 23), (7, 24), (8, 25), (9, 10)] (by kernel_rfl) (⟨(Fr.refl _ _).drew, fun _ => by obtain ⟨ws, hq⟩ := HP.out.1.set; exact ⟨ws, hq.grow (Fr.refl [] w1).drew⟩, fun h => h.elim, fun _ => HP.out.1.ref.grow (Fr.refl [] w1).drew, fun h => h.elim⟩) ?_ ?_
  · intro q a1 W1 i hi hnq hd hG K hK
    have hlt : i < 10 := hi
    have hc : i = 0 ∨ i = 1 ∨ i = 2 ∨ i = 3 ∨ i = 4 ∨ i = 5 ∨ i = 6 ∨ i = 7 ∨ i = 8 ∨ i = 9 := by omega
    have hΨ := hG.world
    rcases hc with rfl | rfl | rfl | rfl | rfl | rfl | rfl | rfl | rfl | rfl
    · have e0 := hG.old 0 (by kernel_rfl)
      refine op_doC rfl (wanted_none rfl) hK (fun K' hK' => ?_)
      unfold Oper.wp
      go_simp
      exact hK' _ _ (fun u hu => by cases hu; rfl) (hΨ.keep (by decide) (by decide) (Fr.refl _ _))
    · have e9 := hG.old 9 (by kernel_rfl)
      refine op_doC rfl (wanted_none rfl) hK (fun K' hK' => ?_)
      unfold Oper.wp
      go_simp
      exact hK' _ _ (fun u hu => by cases hu; rfl) (hΨ.keep (by decide) (by decide) (Fr.refl _ _))
    · have e18 := hG.val (v := .pointer (some ⟨bx, 3, none⟩)) 1 18 (hd _ rfl ⟨1, .data⟩ (by simp) rfl) rfl rfl
      have db : Blk W1 bx #[.int .i64 0, .int .i64 onn, .int .i64 wi, .int .i64 i] 86 := hΨ.fr.blk hb1 (fun hm => by
        rcases List.mem_append.1 hm with q | q
        · obtain ⟨ws, hq⟩ := HP.out.1.set
          exact notin_set hq hb1 (by decide) q
        · exact notin_refb HP.out.1.ref hb1 (by decide) q)
      have y3 := db.at 3 (v := .int .i64 i) rfl
      refine op_doC rfl (wanted_none rfl) hK (fun K' hK' => ?_)
      unfold Oper.wp
      go_simp
      exact hK' _ _ (fun u hu => by cases hu; rfl) (hΨ.keep (by decide) (by decide) (Fr.refl _ _))
    · have e17 := hG.val (v := .pointer (some ⟨b, 0, none⟩)) 0 17 (hd _ rfl ⟨0, .data⟩ (by simp) rfl) rfl rfl
      have e19 := hG.val (v := .int .i64 i) 2 19 (hd _ rfl ⟨2, .data⟩ (by simp) rfl) rfl rfl
      refine op_doC rfl (wanted_none rfl) hK (fun K' hK' => ?_)
      unfold Oper.wp
      go_simp
      obtain ⟨ws, hq⟩ := hΨ.s0 hnq
      refine (add_any W1 b v B ws i hq).mono ?_
      rintro e W2 ⟨rfl, hs, f⟩
      obtain ⟨C2, hr⟩ := hΨ.rref
      refine hK' _ _ (fun u hu => by cases hu; rfl) ⟨hΨ.fr.trans f (fun x hx => .inl (by simp [hx])), fun hn => absurd (.inr rfl) hn, fun _ => hs, fun hn => ?_, fun hp => ?_⟩
      · exact (hΨ.r0 (fun hp => hn (.inl hp))).beside hq f
      · exact (hΨ.r1 (hp.resolve_right (by decide))).beside hq f
    · have e2 := hG.old 2 (by kernel_rfl)
      refine op_doC rfl (wanted_none rfl) hK (fun K' hK' => ?_)
      unfold Oper.wp
      go_simp
      exact hK' _ _ (fun u hu => by cases hu; rfl) (hΨ.keep (by decide) (by decide) (Fr.refl _ _))
    · have e9 := hG.old 9 (by kernel_rfl)
      refine op_doC rfl (wanted_none rfl) hK (fun K' hK' => ?_)
      unfold Oper.wp
      go_simp
      exact hK' _ _ (fun u hu => by cases hu; rfl) (hΨ.keep (by decide) (by decide) (Fr.refl _ _))
    · have e22 := hG.val (v := .pointer (some ⟨bx, 3, none⟩)) 5 22 (hd _ rfl ⟨5, .data⟩ (by simp) rfl) rfl rfl
      have db : Blk W1 bx #[.int .i64 0, .int .i64 onn, .int .i64 wi, .int .i64 i] 86 := hΨ.fr.blk hb1 (fun hm => by
        rcases List.mem_append.1 hm with q | q
        · obtain ⟨ws, hq⟩ := HP.out.1.set
          exact notin_set hq hb1 (by decide) q
        · exact notin_refb HP.out.1.ref hb1 (by decide) q)
      have y3 := db.at 3 (v := .int .i64 i) rfl
      refine op_doC rfl (wanted_none rfl) hK (fun K' hK' => ?_)
      unfold Oper.wp
      go_simp
      exact hK' _ _ (fun u hu => by cases hu; rfl) (hΨ.keep (by decide) (by decide) (Fr.refl _ _))
    · have e21 := hG.val (v := .pointer (some ⟨m, 0, none⟩)) 4 21 (hd _ rfl ⟨4, .data⟩ (by simp) rfl) rfl rfl
      have e23 := hG.val (v := .int .i64 i) 6 23 (hd _ rfl ⟨6, .data⟩ (by simp) rfl) rfl rfl
      refine op_doC rfl (wanted_none rfl) hK (fun K' hK' => ?_)
      unfold Oper.wp
      go_simp
      refine (radd_any W1 m u B i (hΨ.r0 hnq)).mono ?_
      rintro e W2 ⟨rfl, hr, f⟩
      refine hK' _ _ (fun u hu => by cases hu; rfl) ⟨hΨ.fr.trans f (fun x hx => .inl (by simp [hx])), fun hn => ?_, fun hp => ?_, fun hn => absurd (.inr rfl) hn, fun _ => hr⟩
      · obtain ⟨ws, hq⟩ := hΨ.s0 (fun hp => hn (.inl hp))
        exact ⟨ws, hq.beside (hΨ.r0 hnq) f⟩
      · obtain ⟨ws, hq⟩ := hΨ.s1 (hp.resolve_right (by decide))
        exact ⟨ws, hq.beside (hΨ.r0 hnq) f⟩
    · have e20 := hG.val (v := .bool (addA B i)) 3 20 (hd _ rfl ⟨3, .data⟩ (by simp) rfl) rfl rfl
      have e24 := hG.val (v := .bool (addA B i)) 7 24 (hd _ rfl ⟨7, .data⟩ (by simp) rfl) rfl rfl
      refine op_doC rfl (wanted_none rfl) hK (fun K' hK' => ?_)
      unfold Oper.wp
      go_simp
      exact hK' _ _ (fun u hu => by cases hu; rfl) (hΨ.keep (by decide) (by decide) (Fr.refl _ _))
    · have e25 := hG.val (v := .bool true) 8 25 (hd _ rfl ⟨8, .data⟩ (by simp) rfl) rfl rfl
      refine op_doC rfl (wanted_none rfl) hK (fun K' hK' => ?_)
      unfold Oper.wp
      go_simp
      exact hK' _ _ (fun u hu => by cases hu; rfl) (hΨ.keep (by decide) (by decide) (Fr.refl _ _))
  · intro vs q W1 hq hΨ hv
    have r0 : vs 0 = .pointer (some ⟨b, 0, none⟩) := hv 0 17 _ (by decide) rfl rfl
    have r1 : vs 1 = .pointer (some ⟨bx, 3, none⟩) := hv 1 18 _ (by decide) rfl rfl
    have r2 : vs 2 = .int .i64 i := hv 2 19 _ (by decide) rfl rfl
    have r3 : vs 3 = .bool (addA B i) := hv 3 20 _ (by decide) rfl rfl
    have r4 : vs 4 = .pointer (some ⟨m, 0, none⟩) := hv 4 21 _ (by decide) rfl rfl
    have r5 : vs 5 = .pointer (some ⟨bx, 3, none⟩) := hv 5 22 _ (by decide) rfl rfl
    have r6 : vs 6 = .int .i64 i := hv 6 23 _ (by decide) rfl rfl
    have r7 : vs 7 = .bool (addA B i) := hv 7 24 _ (by decide) rfl rfl
    have r8 : vs 8 = .bool true := hv 8 25 _ (by decide) rfl rfl
    have r9 : vs 9 = .bool true := hv 9 10 _ (by decide) rfl rfl
    simp only [lay, List.foldl_cons, List.foldl_nil, r0, r1, r2, r3, r4, r5, r6, r7, r8, r9] at hΨ ⊢
    simp only [List.setIfInBounds_toArray, List.set_cons_zero, List.set_cons_succ] at hΨ ⊢
    clear hv r0 r1 r2 r3 r4 r5 r6 r7 r8 r9
    have HQ := Lib.hid (And.intro hΨ.fr (And.intro (hΨ.s1 (hq 3 (by decide))) (hΨ.r1 (hq 7 (by decide)))))
    clear hΨ hq
    go_wp2_with fail
    refine bodyPost_ret (v := .bool true) (by simp [results, Tryd.results30, go_sem]) rfl ⟨rfl, ⟨HQ.out.2.1, HQ.out.2.2⟩, (HP.out.2.2.1.mono (T := v.ownBlock.toList ++ u.ownBlock.toList) (by simp)).trans HQ.out.1 (fun y hy => .inl hy)⟩
set_option maxRecDepth 100000 in
set_option maxHeartbeats 4000000 in
theorem bit_del (w : World) (b c m n : Nat) (v u v2 u2 : Value) (B C : List Bool) (onn wi i : Int) (h1 : PB b m v u B w) (h2 : PB c n v2 u2 C w) (hT : DeB w) :
    Calls Tryd.prog 30 #[.pointer (some ⟨b, 0, none⟩), .pointer (some ⟨c, 0, none⟩), .pointer (some ⟨m, 0, none⟩), .pointer (some ⟨n, 0, none⟩), .agg #[.int .i64 1, .int .i64 onn, .int .i64 wi, .int .i64 i]] w (BitPost w b m v u (delB B i)) := by
  have hb1 := Blk.new w #[.int .i64 1, .int .i64 onn, .int .i64 wi, .int .i64 i] 86
  have f01 : Fr [] w (w.alloc (.cells #[.int .i64 1, .int .i64 onn, .int .i64 wi, .int .i64 i] 86)) := (Fr.refl [] w).alloc _
  have d0 := hb1.at 0 (v := .int .i64 1) rfl
  have d3 := hb1.at 3 (v := .int .i64 i) rfl
  have HH := Lib.hid (And.intro h1 (And.intro h2 (And.intro f01 (And.intro hb1 hT))))
  clear f01 h1 h2 hb1 hT
  go_enter Tryd.func30, Tryd.ntmps30
  go_wp2_with fail
  obtain ⟨h1, h2, f01, hb1, hT⟩ := HH.out
  clear HH d0 d3
  obtain ⟨w1, hw1⟩ : ∃ w1, w.alloc (.cells #[.int .i64 1, .int .i64 onn, .int .i64 wi, .int .i64 i] 86) = w1 := ⟨_, rfl⟩
  obtain ⟨bx, hbx⟩ : ∃ bx, bx = w.heap.size := ⟨_, rfl⟩
  rw [← hbx] at hb1 ⊢
  rw [hw1] at hb1 f01 ⊢
  have hP := h1.grow f01
  have hQ := h2.grow f01
  have HP := Lib.hid (And.intro hP (And.intro hQ (And.intro f01 (And.intro hb1 (deB_fr2 hT f01)))))
  clear hP hQ f01 h1 h2 hw1 hbx hT
  refine region_chg (by kernel_rfl) (by kernel_rfl) [some (.pointer (some ⟨b, 0, none⟩)), some (.pointer (some ⟨bx, 3, none⟩)), some (.int .i64 i), some (.bool (hasB B i)), some (.pointer (some ⟨m, 0, none⟩)), some (.pointer (some ⟨bx, 3, none⟩)), some (.int .i64 i), some (.bool (hasB B i)), some (.bool true), some (.bool true)] (RgB w1 b m v u B (delB B i)) 142 rfl (by kernel_rfl) [(0, 28), (1, 29), (2, 30), (3, 31), (4, 32), (5, 33), (6, 34), (7, 35), (8, 36), (9, 10)] (by kernel_rfl) (⟨(Fr.refl _ _).drew, fun _ => by obtain ⟨ws, hq⟩ := HP.out.1.set; exact ⟨ws, hq.grow (Fr.refl [] w1).drew⟩, fun h => h.elim, fun _ => HP.out.1.ref.grow (Fr.refl [] w1).drew, fun h => h.elim⟩) ?_ ?_
  · intro q a1 W1 i hi hnq hd hG K hK
    have hlt : i < 10 := hi
    have hc : i = 0 ∨ i = 1 ∨ i = 2 ∨ i = 3 ∨ i = 4 ∨ i = 5 ∨ i = 6 ∨ i = 7 ∨ i = 8 ∨ i = 9 := by omega
    have hΨ := hG.world
    rcases hc with rfl | rfl | rfl | rfl | rfl | rfl | rfl | rfl | rfl | rfl
    · have e0 := hG.old 0 (by kernel_rfl)
      refine op_doC rfl (wanted_none rfl) hK (fun K' hK' => ?_)
      unfold Oper.wp
      go_simp
      exact hK' _ _ (fun u hu => by cases hu; rfl) (hΨ.keep (by decide) (by decide) (Fr.refl _ _))
    · have e9 := hG.old 9 (by kernel_rfl)
      refine op_doC rfl (wanted_none rfl) hK (fun K' hK' => ?_)
      unfold Oper.wp
      go_simp
      exact hK' _ _ (fun u hu => by cases hu; rfl) (hΨ.keep (by decide) (by decide) (Fr.refl _ _))
    · have e29 := hG.val (v := .pointer (some ⟨bx, 3, none⟩)) 1 29 (hd _ rfl ⟨1, .data⟩ (by simp) rfl) rfl rfl
      have db : Blk W1 bx #[.int .i64 1, .int .i64 onn, .int .i64 wi, .int .i64 i] 86 := hΨ.fr.blk hb1 (fun hm => by
        rcases List.mem_append.1 hm with q | q
        · obtain ⟨ws, hq⟩ := HP.out.1.set
          exact notin_set hq hb1 (by decide) q
        · exact notin_refb HP.out.1.ref hb1 (by decide) q)
      have y3 := db.at 3 (v := .int .i64 i) rfl
      refine op_doC rfl (wanted_none rfl) hK (fun K' hK' => ?_)
      unfold Oper.wp
      go_simp
      exact hK' _ _ (fun u hu => by cases hu; rfl) (hΨ.keep (by decide) (by decide) (Fr.refl _ _))
    · have e28 := hG.val (v := .pointer (some ⟨b, 0, none⟩)) 0 28 (hd _ rfl ⟨0, .data⟩ (by simp) rfl) rfl rfl
      have e30 := hG.val (v := .int .i64 i) 2 30 (hd _ rfl ⟨2, .data⟩ (by simp) rfl) rfl rfl
      refine op_doC rfl (wanted_none rfl) hK (fun K' hK' => ?_)
      unfold Oper.wp
      go_simp
      obtain ⟨ws, hq⟩ := hΨ.s0 hnq
      refine (bdel_any W1 b v B ws i hq).mono ?_
      rintro e W2 ⟨rfl, hs, f⟩
      obtain ⟨C2, hr⟩ := hΨ.rref
      refine hK' _ _ (fun u hu => by cases hu; rfl) ⟨hΨ.fr.trans f (fun x hx => .inl (by simp [hx])), fun hn => absurd (.inr rfl) hn, fun _ => hs, fun hn => ?_, fun hp => ?_⟩
      · exact (hΨ.r0 (fun hp => hn (.inl hp))).beside hq f
      · exact (hΨ.r1 (hp.resolve_right (by decide))).beside hq f
    · have e2 := hG.old 2 (by kernel_rfl)
      refine op_doC rfl (wanted_none rfl) hK (fun K' hK' => ?_)
      unfold Oper.wp
      go_simp
      exact hK' _ _ (fun u hu => by cases hu; rfl) (hΨ.keep (by decide) (by decide) (Fr.refl _ _))
    · have e9 := hG.old 9 (by kernel_rfl)
      refine op_doC rfl (wanted_none rfl) hK (fun K' hK' => ?_)
      unfold Oper.wp
      go_simp
      exact hK' _ _ (fun u hu => by cases hu; rfl) (hΨ.keep (by decide) (by decide) (Fr.refl _ _))
    · have e33 := hG.val (v := .pointer (some ⟨bx, 3, none⟩)) 5 33 (hd _ rfl ⟨5, .data⟩ (by simp) rfl) rfl rfl
      have db : Blk W1 bx #[.int .i64 1, .int .i64 onn, .int .i64 wi, .int .i64 i] 86 := hΨ.fr.blk hb1 (fun hm => by
        rcases List.mem_append.1 hm with q | q
        · obtain ⟨ws, hq⟩ := HP.out.1.set
          exact notin_set hq hb1 (by decide) q
        · exact notin_refb HP.out.1.ref hb1 (by decide) q)
      have y3 := db.at 3 (v := .int .i64 i) rfl
      refine op_doC rfl (wanted_none rfl) hK (fun K' hK' => ?_)
      unfold Oper.wp
      go_simp
      exact hK' _ _ (fun u hu => by cases hu; rfl) (hΨ.keep (by decide) (by decide) (Fr.refl _ _))
    · have e32 := hG.val (v := .pointer (some ⟨m, 0, none⟩)) 4 32 (hd _ rfl ⟨4, .data⟩ (by simp) rfl) rfl rfl
      have e34 := hG.val (v := .int .i64 i) 6 34 (hd _ rfl ⟨6, .data⟩ (by simp) rfl) rfl rfl
      refine op_doC rfl (wanted_none rfl) hK (fun K' hK' => ?_)
      unfold Oper.wp
      go_simp
      refine (rdelB_any W1 m u B i (hΨ.r0 hnq)).mono ?_
      rintro e W2 ⟨rfl, hr, f⟩
      refine hK' _ _ (fun u hu => by cases hu; rfl) ⟨hΨ.fr.trans f (fun x hx => .inl (by simp [hx])), fun hn => ?_, fun hp => ?_, fun hn => absurd (.inr rfl) hn, fun _ => hr⟩
      · obtain ⟨ws, hq⟩ := hΨ.s0 (fun hp => hn (.inl hp))
        exact ⟨ws, hq.beside (hΨ.r0 hnq) f⟩
      · obtain ⟨ws, hq⟩ := hΨ.s1 (hp.resolve_right (by decide))
        exact ⟨ws, hq.beside (hΨ.r0 hnq) f⟩
    · have e31 := hG.val (v := .bool (hasB B i)) 3 31 (hd _ rfl ⟨3, .data⟩ (by simp) rfl) rfl rfl
      have e35 := hG.val (v := .bool (hasB B i)) 7 35 (hd _ rfl ⟨7, .data⟩ (by simp) rfl) rfl rfl
      refine op_doC rfl (wanted_none rfl) hK (fun K' hK' => ?_)
      unfold Oper.wp
      go_simp
      exact hK' _ _ (fun u hu => by cases hu; rfl) (hΨ.keep (by decide) (by decide) (Fr.refl _ _))
    · have e36 := hG.val (v := .bool true) 8 36 (hd _ rfl ⟨8, .data⟩ (by simp) rfl) rfl rfl
      refine op_doC rfl (wanted_none rfl) hK (fun K' hK' => ?_)
      unfold Oper.wp
      go_simp
      exact hK' _ _ (fun u hu => by cases hu; rfl) (hΨ.keep (by decide) (by decide) (Fr.refl _ _))
  · intro vs q W1 hq hΨ hv
    have r0 : vs 0 = .pointer (some ⟨b, 0, none⟩) := hv 0 28 _ (by decide) rfl rfl
    have r1 : vs 1 = .pointer (some ⟨bx, 3, none⟩) := hv 1 29 _ (by decide) rfl rfl
    have r2 : vs 2 = .int .i64 i := hv 2 30 _ (by decide) rfl rfl
    have r3 : vs 3 = .bool (hasB B i) := hv 3 31 _ (by decide) rfl rfl
    have r4 : vs 4 = .pointer (some ⟨m, 0, none⟩) := hv 4 32 _ (by decide) rfl rfl
    have r5 : vs 5 = .pointer (some ⟨bx, 3, none⟩) := hv 5 33 _ (by decide) rfl rfl
    have r6 : vs 6 = .int .i64 i := hv 6 34 _ (by decide) rfl rfl
    have r7 : vs 7 = .bool (hasB B i) := hv 7 35 _ (by decide) rfl rfl
    have r8 : vs 8 = .bool true := hv 8 36 _ (by decide) rfl rfl
    have r9 : vs 9 = .bool true := hv 9 10 _ (by decide) rfl rfl
    simp only [lay, List.foldl_cons, List.foldl_nil, r0, r1, r2, r3, r4, r5, r6, r7, r8, r9] at hΨ ⊢
    simp only [List.setIfInBounds_toArray, List.set_cons_zero, List.set_cons_succ] at hΨ ⊢
    clear hv r0 r1 r2 r3 r4 r5 r6 r7 r8 r9
    have HQ := Lib.hid (And.intro hΨ.fr (And.intro (hΨ.s1 (hq 3 (by decide))) (hΨ.r1 (hq 7 (by decide)))))
    clear hΨ hq
    go_wp2_with fail
    refine bodyPost_ret (v := .bool true) (by simp [results, Tryd.results30, go_sem]) rfl ⟨rfl, ⟨HQ.out.2.1, HQ.out.2.2⟩, (HP.out.2.2.1.mono (T := v.ownBlock.toList ++ u.ownBlock.toList) (by simp)).trans HQ.out.1 (fun y hy => .inl hy)⟩
set_option maxRecDepth 100000 in
set_option maxHeartbeats 4000000 in
theorem bit_has (w : World) (b c m n : Nat) (v u v2 u2 : Value) (B C : List Bool) (onn wi i : Int) (h1 : PB b m v u B w) (h2 : PB c n v2 u2 C w) (hT : DeB w) :
    Calls Tryd.prog 30 #[.pointer (some ⟨b, 0, none⟩), .pointer (some ⟨c, 0, none⟩), .pointer (some ⟨m, 0, none⟩), .pointer (some ⟨n, 0, none⟩), .agg #[.int .i64 2, .int .i64 onn, .int .i64 wi, .int .i64 i]] w (BitPost w b m v u B) := by
  have hb1 := Blk.new w #[.int .i64 2, .int .i64 onn, .int .i64 wi, .int .i64 i] 86
  have f01 : Fr [] w (w.alloc (.cells #[.int .i64 2, .int .i64 onn, .int .i64 wi, .int .i64 i] 86)) := (Fr.refl [] w).alloc _
  have d0 := hb1.at 0 (v := .int .i64 2) rfl
  have d3 := hb1.at 3 (v := .int .i64 i) rfl
  have HH := Lib.hid (And.intro h1 (And.intro h2 (And.intro f01 (And.intro hb1 hT))))
  clear f01 h1 h2 hb1 hT
  go_enter Tryd.func30, Tryd.ntmps30
  go_wp2_with fail
  obtain ⟨h1, h2, f01, hb1, hT⟩ := HH.out
  clear HH d0 d3
  obtain ⟨w1, hw1⟩ : ∃ w1, w.alloc (.cells #[.int .i64 2, .int .i64 onn, .int .i64 wi, .int .i64 i] 86) = w1 := ⟨_, rfl⟩
  obtain ⟨bx, hbx⟩ : ∃ bx, bx = w.heap.size := ⟨_, rfl⟩
  rw [← hbx] at hb1 ⊢
  rw [hw1] at hb1 f01 ⊢
  have hP := h1.grow f01
  have hQ := h2.grow f01
  have HP := Lib.hid (And.intro hP (And.intro hQ (And.intro f01 (And.intro hb1 (deB_fr2 hT f01)))))
  clear hP hQ f01 h1 h2 hw1 hbx hT
  refine region_grow (by kernel_rfl) (by kernel_rfl) [.is (.pointer (some ⟨b, 0, none⟩)), .is (.pointer (some ⟨bx, 3, none⟩)), .is (.int .i64 i), .is (.bool (hasB B i)), .is (.pointer (some ⟨m, 0, none⟩)), .is (.pointer (some ⟨bx, 3, none⟩)), .is (.int .i64 i), .is (.bool (hasB B i)), .is (.bool true), .is (.bool true)] 142 rfl (by kernel_rfl) [(0, 39), (1, 40), (2, 41), (3, 42), (4, 43), (5, 44), (6, 45), (7, 46), (8, 47), (9, 10)] (by kernel_rfl) ?_ ?_
  · intro q a1 W1 i hi hnq hd hG K hK
    have hlt : i < 10 := hi
    have hc : i = 0 ∨ i = 1 ∨ i = 2 ∨ i = 3 ∨ i = 4 ∨ i = 5 ∨ i = 6 ∨ i = 7 ∨ i = 8 ∨ i = 9 := by omega
    rcases hc with rfl | rfl | rfl | rfl | rfl | rfl | rfl | rfl | rfl | rfl
    · have e0 := hG.old 0 (by kernel_rfl)
      refine op_do rfl (wanted_none rfl) hK (fun K' hK' => ?_)
      unfold Oper.wp
      go_simp
      exact hK' _ _ (Fr.refl _ _) rfl
    · have e9 := hG.old 9 (by kernel_rfl)
      refine op_do rfl (wanted_none rfl) hK (fun K' hK' => ?_)
      unfold Oper.wp
      go_simp
      exact hK' _ _ (Fr.refl _ _) rfl
    · have e40 := hG.val (v := .pointer (some ⟨bx, 3, none⟩)) 1 40 (hd _ rfl ⟨1, .data⟩ (by simp) rfl) rfl rfl
      have y3 := (hG.grown.cell (a := ⟨bx, 3, none⟩) HP.out.2.2.2.1.lt (by simp)).trans (HP.out.2.2.2.1.at 3 (v := .int .i64 i) rfl)
      refine op_do rfl (wanted_none rfl) hK (fun K' hK' => ?_)
      unfold Oper.wp
      go_simp
      exact hK' _ _ (Fr.refl _ _) rfl
    · have e39 := hG.val (v := .pointer (some ⟨b, 0, none⟩)) 0 39 (hd _ rfl ⟨0, .data⟩ (by simp) rfl) rfl rfl
      have e41 := hG.val (v := .int .i64 i) 2 41 (hd _ rfl ⟨2, .data⟩ (by simp) rfl) rfl rfl
      refine op_do rfl (wanted_none rfl) hK (fun K' hK' => ?_)
      unfold Oper.wp
      go_simp
      obtain ⟨ws, hws⟩ := HP.out.1.set
      refine (has_any W1 b v B ws i (hws.grow hG.grown)).mono ?_
      rintro e W2 ⟨rfl, rfl⟩
      exact hK' _ _ (Fr.refl _ _) rfl
    · have e2 := hG.old 2 (by kernel_rfl)
      refine op_do rfl (wanted_none rfl) hK (fun K' hK' => ?_)
      unfold Oper.wp
      go_simp
      exact hK' _ _ (Fr.refl _ _) rfl
    · have e9 := hG.old 9 (by kernel_rfl)
      refine op_do rfl (wanted_none rfl) hK (fun K' hK' => ?_)
      unfold Oper.wp
      go_simp
      exact hK' _ _ (Fr.refl _ _) rfl
    · have e44 := hG.val (v := .pointer (some ⟨bx, 3, none⟩)) 5 44 (hd _ rfl ⟨5, .data⟩ (by simp) rfl) rfl rfl
      have y3 := (hG.grown.cell (a := ⟨bx, 3, none⟩) HP.out.2.2.2.1.lt (by simp)).trans (HP.out.2.2.2.1.at 3 (v := .int .i64 i) rfl)
      refine op_do rfl (wanted_none rfl) hK (fun K' hK' => ?_)
      unfold Oper.wp
      go_simp
      exact hK' _ _ (Fr.refl _ _) rfl
    · have e43 := hG.val (v := .pointer (some ⟨m, 0, none⟩)) 4 43 (hd _ rfl ⟨4, .data⟩ (by simp) rfl) rfl rfl
      have e45 := hG.val (v := .int .i64 i) 6 45 (hd _ rfl ⟨6, .data⟩ (by simp) rfl) rfl rfl
      refine op_do rfl (wanted_none rfl) hK (fun K' hK' => ?_)
      unfold Oper.wp
      go_simp
      refine (rhas_any W1 m u B i (HP.out.1.ref.grow hG.grown)).mono ?_
      rintro e W2 ⟨rfl, rfl⟩
      exact hK' _ _ (Fr.refl _ _) rfl
    · have e42 := hG.val (v := .bool (hasB B i)) 3 42 (hd _ rfl ⟨3, .data⟩ (by simp) rfl) rfl rfl
      have e46 := hG.val (v := .bool (hasB B i)) 7 46 (hd _ rfl ⟨7, .data⟩ (by simp) rfl) rfl rfl
      refine op_do rfl (wanted_none rfl) hK (fun K' hK' => ?_)
      unfold Oper.wp
      go_simp
      exact hK' _ _ (Fr.refl _ _) rfl
    · have e47 := hG.val (v := .bool true) 8 47 (hd _ rfl ⟨8, .data⟩ (by simp) rfl) rfl rfl
      refine op_do rfl (wanted_none rfl) hK (fun K' hK' => ?_)
      unfold Oper.wp
      go_simp
      exact hK' _ _ (Fr.refl _ _) rfl
  · intro vs W1 f1 hv
    have r0 : vs 0 = .pointer (some ⟨b, 0, none⟩) := hv 0 39 (by decide) rfl
    have r1 : vs 1 = .pointer (some ⟨bx, 3, none⟩) := hv 1 40 (by decide) rfl
    have r2 : vs 2 = .int .i64 i := hv 2 41 (by decide) rfl
    have r3 : vs 3 = .bool (hasB B i) := hv 3 42 (by decide) rfl
    have r4 : vs 4 = .pointer (some ⟨m, 0, none⟩) := hv 4 43 (by decide) rfl
    have r5 : vs 5 = .pointer (some ⟨bx, 3, none⟩) := hv 5 44 (by decide) rfl
    have r6 : vs 6 = .int .i64 i := hv 6 45 (by decide) rfl
    have r7 : vs 7 = .bool (hasB B i) := hv 7 46 (by decide) rfl
    have r8 : vs 8 = .bool true := hv 8 47 (by decide) rfl
    have r9 : vs 9 = .bool true := hv 9 10 (by decide) rfl
    simp only [lay, List.foldl_cons, List.foldl_nil, r0, r1, r2, r3, r4, r5, r6, r7, r8, r9]
    simp only [List.setIfInBounds_toArray, List.set_cons_zero, List.set_cons_succ]
    clear hv r0 r1 r2 r3 r4 r5 r6 r7 r8 r9
    go_wp2_with fail
    refine bodyPost_ret (v := .bool true) (by simp [results, Tryd.results30, go_sem]) rfl ⟨rfl, HP.out.1.grow f1, (HP.out.2.2.1.trans f1 (by simp)).mono (by simp)⟩
set_option maxRecDepth 100000 in
set_option maxHeartbeats 4000000 in
theorem bit_count (w : World) (b c m n : Nat) (v u v2 u2 : Value) (B C : List Bool) (onn wi i : Int) (h1 : PB b m v u B w) (h2 : PB c n v2 u2 C w) (hT : DeB w) :
    Calls Tryd.prog 30 #[.pointer (some ⟨b, 0, none⟩), .pointer (some ⟨c, 0, none⟩), .pointer (some ⟨m, 0, none⟩), .pointer (some ⟨n, 0, none⟩), .agg #[.int .i64 3, .int .i64 onn, .int .i64 wi, .int .i64 i]] w (BitPost w b m v u B) := by
  have hb1 := Blk.new w #[.int .i64 3, .int .i64 onn, .int .i64 wi, .int .i64 i] 86
  have f01 : Fr [] w (w.alloc (.cells #[.int .i64 3, .int .i64 onn, .int .i64 wi, .int .i64 i] 86)) := (Fr.refl [] w).alloc _
  have d0 := hb1.at 0 (v := .int .i64 3) rfl
  have d3 := hb1.at 3 (v := .int .i64 i) rfl
  have HH := Lib.hid (And.intro h1 (And.intro h2 (And.intro f01 (And.intro hb1 hT))))
  clear f01 h1 h2 hb1 hT
  go_enter Tryd.func30, Tryd.ntmps30
  go_wp2_with fail
  obtain ⟨h1, h2, f01, hb1, hT⟩ := HH.out
  clear HH d0 d3
  obtain ⟨w1, hw1⟩ : ∃ w1, w.alloc (.cells #[.int .i64 3, .int .i64 onn, .int .i64 wi, .int .i64 i] 86) = w1 := ⟨_, rfl⟩
  obtain ⟨bx, hbx⟩ : ∃ bx, bx = w.heap.size := ⟨_, rfl⟩
  rw [← hbx] at hb1 ⊢
  rw [hw1] at hb1 f01 ⊢
  have hP := h1.grow f01
  have hQ := h2.grow f01
  have HP := Lib.hid (And.intro hP (And.intro hQ (And.intro f01 (And.intro hb1 (deB_fr2 hT f01)))))
  clear hP hQ f01 h1 h2 hw1 hbx hT
  obtain ⟨ws, hws⟩ := HP.out.1.set
  (with_reducible refine (count_any w1 b v B ws hws).mono ?_)
  rintro e w2 ⟨rfl, rfl⟩
  go_wp2_with fail
  (with_reducible refine (rcount_any w1 m u B HP.out.1.ref).mono ?_)
  rintro e w2 ⟨rfl, rfl⟩
  clear hws
  go_wp2_with fail
  refine bodyPost_ret (v := .bool true) (by simp [results, Tryd.results30, go_sem]) rfl ⟨rfl, HP.out.1, HP.out.2.2.1.mono (by simp)⟩
set_option maxRecDepth 100000 in
set_option maxHeartbeats 4000000 in
theorem bit_least (w : World) (b c m n : Nat) (v u v2 u2 : Value) (B C : List Bool) (onn wi i : Int) (h1 : PB b m v u B w) (h2 : PB c n v2 u2 C w) (hT : DeB w) :
    Calls Tryd.prog 30 #[.pointer (some ⟨b, 0, none⟩), .pointer (some ⟨c, 0, none⟩), .pointer (some ⟨m, 0, none⟩), .pointer (some ⟨n, 0, none⟩), .agg #[.int .i64 4, .int .i64 onn, .int .i64 wi, .int .i64 i]] w (BitPost w b m v u B) := by
  have hb1 := Blk.new w #[.int .i64 4, .int .i64 onn, .int .i64 wi, .int .i64 i] 86
  have f01 : Fr [] w (w.alloc (.cells #[.int .i64 4, .int .i64 onn, .int .i64 wi, .int .i64 i] 86)) := (Fr.refl [] w).alloc _
  have d0 := hb1.at 0 (v := .int .i64 4) rfl
  have d3 := hb1.at 3 (v := .int .i64 i) rfl
  have HH := Lib.hid (And.intro h1 (And.intro h2 (And.intro f01 (And.intro hb1 hT))))
  clear f01 h1 h2 hb1 hT
  go_enter Tryd.func30, Tryd.ntmps30
  go_wp2_with fail
  obtain ⟨h1, h2, f01, hb1, hT⟩ := HH.out
  clear HH d0 d3
  obtain ⟨w1, hw1⟩ : ∃ w1, w.alloc (.cells #[.int .i64 4, .int .i64 onn, .int .i64 wi, .int .i64 i] 86) = w1 := ⟨_, rfl⟩
  obtain ⟨bx, hbx⟩ : ∃ bx, bx = w.heap.size := ⟨_, rfl⟩
  rw [← hbx] at hb1 ⊢
  rw [hw1] at hb1 f01 ⊢
  have hP := h1.grow f01
  have hQ := h2.grow f01
  have HP := Lib.hid (And.intro hP (And.intro hQ (And.intro f01 (And.intro hb1 (deB_fr2 hT f01)))))
  clear hP hQ f01 h1 h2 hw1 hbx hT
  refine region_grow (by kernel_rfl) (by kernel_rfl) [.is (.pointer (some ⟨b, 0, none⟩)), .is (.pointer (some ⟨bx, 3, none⟩)), .is (.int .i64 i), .fst B i.toNat true, .is (.pointer (some ⟨m, 0, none⟩)), .is (.pointer (some ⟨bx, 3, none⟩)), .is (.int .i64 i), .fst B i.toNat true, .is (.bool true), .is (.bool true)] 142 rfl (by kernel_rfl) [(0, 57), (1, 58), (2, 59), (3, 60), (4, 61), (5, 62), (6, 63), (7, 64), (8, 65), (9, 10)] (by kernel_rfl) ?_ ?_
  · intro q a1 W1 i hi hnq hd hG K hK
    have hlt : i < 10 := hi
    have hc : i = 0 ∨ i = 1 ∨ i = 2 ∨ i = 3 ∨ i = 4 ∨ i = 5 ∨ i = 6 ∨ i = 7 ∨ i = 8 ∨ i = 9 := by omega
    rcases hc with rfl | rfl | rfl | rfl | rfl | rfl | rfl | rfl | rfl | rfl
    · have e0 := hG.old 0 (by kernel_rfl)
      refine op_do rfl (wanted_none rfl) hK (fun K' hK' => ?_)
      unfold Oper.wp
      go_simp
      exact hK' _ _ (Fr.refl _ _) rfl
    · have e9 := hG.old 9 (by kernel_rfl)
      refine op_do rfl (wanted_none rfl) hK (fun K' hK' => ?_)
      unfold Oper.wp
      go_simp
      exact hK' _ _ (Fr.refl _ _) rfl
    · have e58 := hG.val (v := .pointer (some ⟨bx, 3, none⟩)) 1 58 (hd _ rfl ⟨1, .data⟩ (by simp) rfl) rfl rfl
      have y3 := (hG.grown.cell (a := ⟨bx, 3, none⟩) HP.out.2.2.2.1.lt (by simp)).trans (HP.out.2.2.2.1.at 3 (v := .int .i64 i) rfl)
      refine op_do rfl (wanted_none rfl) hK (fun K' hK' => ?_)
      unfold Oper.wp
      go_simp
      exact hK' _ _ (Fr.refl _ _) rfl
    · have e57 := hG.val (v := .pointer (some ⟨b, 0, none⟩)) 0 57 (hd _ rfl ⟨0, .data⟩ (by simp) rfl) rfl rfl
      have e59 := hG.val (v := .int .i64 i) 2 59 (hd _ rfl ⟨2, .data⟩ (by simp) rfl) rfl rfl
      refine op_do rfl (wanted_none rfl) hK (fun K' hK' => ?_)
      unfold Oper.wp
      go_simp
      obtain ⟨ws, hws⟩ := HP.out.1.set
      refine (leastZ_any W1 b v B ws i (hws.grow hG.grown) (deB_fr2 HP.out.2.2.2.2 hG.grown)).mono ?_
      rintro e W2 ⟨a, rfl, ha, rfl⟩
      exact hK' _ _ (Fr.refl _ _) ⟨a, rfl, ha⟩
    · have e2 := hG.old 2 (by kernel_rfl)
      refine op_do rfl (wanted_none rfl) hK (fun K' hK' => ?_)
      unfold Oper.wp
      go_simp
      exact hK' _ _ (Fr.refl _ _) rfl
    · have e9 := hG.old 9 (by kernel_rfl)
      refine op_do rfl (wanted_none rfl) hK (fun K' hK' => ?_)
      unfold Oper.wp
      go_simp
      exact hK' _ _ (Fr.refl _ _) rfl
    · have e62 := hG.val (v := .pointer (some ⟨bx, 3, none⟩)) 5 62 (hd _ rfl ⟨5, .data⟩ (by simp) rfl) rfl rfl
      have y3 := (hG.grown.cell (a := ⟨bx, 3, none⟩) HP.out.2.2.2.1.lt (by simp)).trans (HP.out.2.2.2.1.at 3 (v := .int .i64 i) rfl)
      refine op_do rfl (wanted_none rfl) hK (fun K' hK' => ?_)
      unfold Oper.wp
      go_simp
      exact hK' _ _ (Fr.refl _ _) rfl
    · have e61 := hG.val (v := .pointer (some ⟨m, 0, none⟩)) 4 61 (hd _ rfl ⟨4, .data⟩ (by simp) rfl) rfl rfl
      have e63 := hG.val (v := .int .i64 i) 6 63 (hd _ rfl ⟨6, .data⟩ (by simp) rfl) rfl rfl
      refine op_do rfl (wanted_none rfl) hK (fun K' hK' => ?_)
      unfold Oper.wp
      go_simp
      refine (rleast_any W1 m u B i true (HP.out.1.ref.grow hG.grown)).mono ?_
      rintro e W2 ⟨a, rfl, ha, rfl⟩
      exact hK' _ _ (Fr.refl _ _) ⟨a, rfl, ha⟩
    · obtain ⟨u3, e60, s3⟩ := hG.get 3 60 (hd _ rfl ⟨3, .data⟩ (by simp) rfl) rfl
      obtain ⟨u7, e64, s7⟩ := hG.get 7 64 (hd _ rfl ⟨7, .data⟩ (by simp) rfl) rfl
      obtain ⟨a, rfl, ha⟩ := s3
      obtain ⟨a2, rfl, ha2⟩ := s7
      obtain rfl := first_uniq ha ha2
      refine op_do rfl (wanted_none rfl) hK (fun K' hK' => ?_)
      unfold Oper.wp
      go_simp
      exact hK' _ _ (Fr.refl _ _) rfl
    · have e65 := hG.val (v := .bool true) 8 65 (hd _ rfl ⟨8, .data⟩ (by simp) rfl) rfl rfl
      refine op_do rfl (wanted_none rfl) hK (fun K' hK' => ?_)
      unfold Oper.wp
      go_simp
      exact hK' _ _ (Fr.refl _ _) rfl
  · intro vs W1 f1 hv
    have r0 : vs 0 = .pointer (some ⟨b, 0, none⟩) := hv 0 57 (by decide) rfl
    have r1 : vs 1 = .pointer (some ⟨bx, 3, none⟩) := hv 1 58 (by decide) rfl
    have r2 : vs 2 = .int .i64 i := hv 2 59 (by decide) rfl
    have r3 := hv 3 60 (by decide) rfl
    have r4 : vs 4 = .pointer (some ⟨m, 0, none⟩) := hv 4 61 (by decide) rfl
    have r5 : vs 5 = .pointer (some ⟨bx, 3, none⟩) := hv 5 62 (by decide) rfl
    have r6 : vs 6 = .int .i64 i := hv 6 63 (by decide) rfl
    have r7 := hv 7 64 (by decide) rfl
    have r8 : vs 8 = .bool true := hv 8 65 (by decide) rfl
    have r9 : vs 9 = .bool true := hv 9 10 (by decide) rfl
    simp only [lay, List.foldl_cons, List.foldl_nil, r0, r1, r2, r4, r5, r6, r8, r9]
    simp only [List.setIfInBounds_toArray, List.set_cons_zero, List.set_cons_succ]
    clear hv r0 r1 r2 r4 r5 r6 r8 r9
    generalize vs 3 = x3 at *
    generalize vs 7 = x7 at *
    go_wp2_with fail
    refine bodyPost_ret (v := .bool true) (by simp [results, Tryd.results30, go_sem]) rfl ⟨rfl, HP.out.1.grow f1, (HP.out.2.2.1.trans f1 (by simp)).mono (by simp)⟩
set_option maxRecDepth 100000 in
set_option maxHeartbeats 4000000 in
theorem bit_free (w : World) (b c m n : Nat) (v u v2 u2 : Value) (B C : List Bool) (onn wi i : Int) (h1 : PB b m v u B w) (h2 : PB c n v2 u2 C w) (hT : DeB w) :
    Calls Tryd.prog 30 #[.pointer (some ⟨b, 0, none⟩), .pointer (some ⟨c, 0, none⟩), .pointer (some ⟨m, 0, none⟩), .pointer (some ⟨n, 0, none⟩), .agg #[.int .i64 5, .int .i64 onn, .int .i64 wi, .int .i64 i]] w (BitPost w b m v u B) := by
  have hb1 := Blk.new w #[.int .i64 5, .int .i64 onn, .int .i64 wi, .int .i64 i] 86
  have f01 : Fr [] w (w.alloc (.cells #[.int .i64 5, .int .i64 onn, .int .i64 wi, .int .i64 i] 86)) := (Fr.refl [] w).alloc _
  have d0 := hb1.at 0 (v := .int .i64 5) rfl
  have d3 := hb1.at 3 (v := .int .i64 i) rfl
  have HH := Lib.hid (And.intro h1 (And.intro h2 (And.intro f01 (And.intro hb1 hT))))
  clear f01 h1 h2 hb1 hT
  go_enter Tryd.func30, Tryd.ntmps30
  go_wp2_with fail
  obtain ⟨h1, h2, f01, hb1, hT⟩ := HH.out
  clear HH d0 d3
  obtain ⟨w1, hw1⟩ : ∃ w1, w.alloc (.cells #[.int .i64 5, .int .i64 onn, .int .i64 wi, .int .i64 i] 86) = w1 := ⟨_, rfl⟩
  obtain ⟨bx, hbx⟩ : ∃ bx, bx = w.heap.size := ⟨_, rfl⟩
  rw [← hbx] at hb1 ⊢
  rw [hw1] at hb1 f01 ⊢
  have hP := h1.grow f01
  have hQ := h2.grow f01
  have HP := Lib.hid (And.intro hP (And.intro hQ (And.intro f01 (And.intro hb1 (deB_fr2 hT f01)))))
  clear hP hQ f01 h1 h2 hw1 hbx hT
  refine region_grow (by kernel_rfl) (by kernel_rfl) [.is (.pointer (some ⟨b, 0, none⟩)), .is (.pointer (some ⟨bx, 3, none⟩)), .is (.int .i64 i), .fst B i.toNat false, .is (.pointer (some ⟨m, 0, none⟩)), .is (.pointer (some ⟨bx, 3, none⟩)), .is (.int .i64 i), .fst B i.toNat false, .is (.bool true), .is (.bool true)] 142 rfl (by kernel_rfl) [(0, 68), (1, 69), (2, 70), (3, 71), (4, 72), (5, 73), (6, 74), (7, 75), (8, 76), (9, 10)] (by kernel_rfl) ?_ ?_
  · intro q a1 W1 i hi hnq hd hG K hK
    have hlt : i < 10 := hi
    have hc : i = 0 ∨ i = 1 ∨ i = 2 ∨ i = 3 ∨ i = 4 ∨ i = 5 ∨ i = 6 ∨ i = 7 ∨ i = 8 ∨ i = 9 := by omega
    rcases hc with rfl | rfl | rfl | rfl | rfl | rfl | rfl | rfl | rfl | rfl
    · have e0 := hG.old 0 (by kernel_rfl)
      refine op_do rfl (wanted_none rfl) hK (fun K' hK' => ?_)
      unfold Oper.wp
      go_simp
      exact hK' _ _ (Fr.refl _ _) rfl
    · have e9 := hG.old 9 (by kernel_rfl)
      refine op_do rfl (wanted_none rfl) hK (fun K' hK' => ?_)
      unfold Oper.wp
      go_simp
      exact hK' _ _ (Fr.refl _ _) rfl
    · have e69 := hG.val (v := .pointer (some ⟨bx, 3, none⟩)) 1 69 (hd _ rfl ⟨1, .data⟩ (by simp) rfl) rfl rfl
      have y3 := (hG.grown.cell (a := ⟨bx, 3, none⟩) HP.out.2.2.2.1.lt (by simp)).trans (HP.out.2.2.2.1.at 3 (v := .int .i64 i) rfl)
      refine op_do rfl (wanted_none rfl) hK (fun K' hK' => ?_)
      unfold Oper.wp
      go_simp
      exact hK' _ _ (Fr.refl _ _) rfl
    · have e68 := hG.val (v := .pointer (some ⟨b, 0, none⟩)) 0 68 (hd _ rfl ⟨0, .data⟩ (by simp) rfl) rfl rfl
      have e70 := hG.val (v := .int .i64 i) 2 70 (hd _ rfl ⟨2, .data⟩ (by simp) rfl) rfl rfl
      refine op_do rfl (wanted_none rfl) hK (fun K' hK' => ?_)
      unfold Oper.wp
      go_simp
      obtain ⟨ws, hws⟩ := HP.out.1.set
      refine (freeZ_any W1 b v B ws i (hws.grow hG.grown) (deB_fr2 HP.out.2.2.2.2 hG.grown)).mono ?_
      rintro e W2 ⟨a, rfl, ha, rfl⟩
      exact hK' _ _ (Fr.refl _ _) ⟨a, rfl, ha⟩
    · have e2 := hG.old 2 (by kernel_rfl)
      refine op_do rfl (wanted_none rfl) hK (fun K' hK' => ?_)
      unfold Oper.wp
      go_simp
      exact hK' _ _ (Fr.refl _ _) rfl
    · have e9 := hG.old 9 (by kernel_rfl)
      refine op_do rfl (wanted_none rfl) hK (fun K' hK' => ?_)
      unfold Oper.wp
      go_simp
      exact hK' _ _ (Fr.refl _ _) rfl
    · have e73 := hG.val (v := .pointer (some ⟨bx, 3, none⟩)) 5 73 (hd _ rfl ⟨5, .data⟩ (by simp) rfl) rfl rfl
      have y3 := (hG.grown.cell (a := ⟨bx, 3, none⟩) HP.out.2.2.2.1.lt (by simp)).trans (HP.out.2.2.2.1.at 3 (v := .int .i64 i) rfl)
      refine op_do rfl (wanted_none rfl) hK (fun K' hK' => ?_)
      unfold Oper.wp
      go_simp
      exact hK' _ _ (Fr.refl _ _) rfl
    · have e72 := hG.val (v := .pointer (some ⟨m, 0, none⟩)) 4 72 (hd _ rfl ⟨4, .data⟩ (by simp) rfl) rfl rfl
      have e74 := hG.val (v := .int .i64 i) 6 74 (hd _ rfl ⟨6, .data⟩ (by simp) rfl) rfl rfl
      refine op_do rfl (wanted_none rfl) hK (fun K' hK' => ?_)
      unfold Oper.wp
      go_simp
      refine (rleast_any W1 m u B i false (HP.out.1.ref.grow hG.grown)).mono ?_
      rintro e W2 ⟨a, rfl, ha, rfl⟩
      exact hK' _ _ (Fr.refl _ _) ⟨a, rfl, ha⟩
    · obtain ⟨u3, e71, s3⟩ := hG.get 3 71 (hd _ rfl ⟨3, .data⟩ (by simp) rfl) rfl
      obtain ⟨u7, e75, s7⟩ := hG.get 7 75 (hd _ rfl ⟨7, .data⟩ (by simp) rfl) rfl
      obtain ⟨a, rfl, ha⟩ := s3
      obtain ⟨a2, rfl, ha2⟩ := s7
      obtain rfl := first_uniq ha ha2
      refine op_do rfl (wanted_none rfl) hK (fun K' hK' => ?_)
      unfold Oper.wp
      go_simp
      exact hK' _ _ (Fr.refl _ _) rfl
    · have e76 := hG.val (v := .bool true) 8 76 (hd _ rfl ⟨8, .data⟩ (by simp) rfl) rfl rfl
      refine op_do rfl (wanted_none rfl) hK (fun K' hK' => ?_)
      unfold Oper.wp
      go_simp
      exact hK' _ _ (Fr.refl _ _) rfl
  · intro vs W1 f1 hv
    have r0 : vs 0 = .pointer (some ⟨b, 0, none⟩) := hv 0 68 (by decide) rfl
    have r1 : vs 1 = .pointer (some ⟨bx, 3, none⟩) := hv 1 69 (by decide) rfl
    have r2 : vs 2 = .int .i64 i := hv 2 70 (by decide) rfl
    have r3 := hv 3 71 (by decide) rfl
    have r4 : vs 4 = .pointer (some ⟨m, 0, none⟩) := hv 4 72 (by decide) rfl
    have r5 : vs 5 = .pointer (some ⟨bx, 3, none⟩) := hv 5 73 (by decide) rfl
    have r6 : vs 6 = .int .i64 i := hv 6 74 (by decide) rfl
    have r7 := hv 7 75 (by decide) rfl
    have r8 : vs 8 = .bool true := hv 8 76 (by decide) rfl
    have r9 : vs 9 = .bool true := hv 9 10 (by decide) rfl
    simp only [lay, List.foldl_cons, List.foldl_nil, r0, r1, r2, r4, r5, r6, r8, r9]
    simp only [List.setIfInBounds_toArray, List.set_cons_zero, List.set_cons_succ]
    clear hv r0 r1 r2 r4 r5 r6 r8 r9
    generalize vs 3 = x3 at *
    generalize vs 7 = x7 at *
    go_wp2_with fail
    refine bodyPost_ret (v := .bool true) (by simp [results, Tryd.results30, go_sem]) rfl ⟨rfl, HP.out.1.grow f1, (HP.out.2.2.1.trans f1 (by simp)).mono (by simp)⟩
set_option maxRecDepth 100000 in
set_option maxHeartbeats 4000000 in
theorem bit_join (w : World) (b c m n : Nat) (v u v2 u2 : Value) (B C : List Bool) (onn wi i : Int) (h1 : PB b m v u B w) (h2 : PB c n v2 u2 C w) (hT : DeB w) (hl : Hid (B.length = C.length)) :
    Calls Tryd.prog 30 #[.pointer (some ⟨b, 0, none⟩), .pointer (some ⟨c, 0, none⟩), .pointer (some ⟨m, 0, none⟩), .pointer (some ⟨n, 0, none⟩), .agg #[.int .i64 6, .int .i64 onn, .int .i64 wi, .int .i64 i]] w (BitPost w b m v u (zipB joinF B C)) := by
  have hb1 := Blk.new w #[.int .i64 6, .int .i64 onn, .int .i64 wi, .int .i64 i] 86
  have f01 : Fr [] w (w.alloc (.cells #[.int .i64 6, .int .i64 onn, .int .i64 wi, .int .i64 i] 86)) := (Fr.refl [] w).alloc _
  have d0 := hb1.at 0 (v := .int .i64 6) rfl
  have d3 := hb1.at 3 (v := .int .i64 i) rfl
  have HH := Lib.hid (And.intro h1 (And.intro h2 (And.intro f01 (And.intro hb1 hT))))
  clear f01 h1 h2 hb1 hT
  go_enter Tryd.func30, Tryd.ntmps30
  go_wp2_with fail
  obtain ⟨h1, h2, f01, hb1, hT⟩ := HH.out
  clear HH d0 d3
  obtain ⟨w1, hw1⟩ : ∃ w1, w.alloc (.cells #[.int .i64 6, .int .i64 onn, .int .i64 wi, .int .i64 i] 86) = w1 := ⟨_, rfl⟩
  obtain ⟨bx, hbx⟩ : ∃ bx, bx = w.heap.size := ⟨_, rfl⟩
  rw [← hbx] at hb1 ⊢
  rw [hw1] at hb1 f01 ⊢
  have hP := h1.grow f01
  have hQ := h2.grow f01
  have HP := Lib.hid (And.intro hP (And.intro hQ (And.intro f01 (And.intro hb1 (deB_fr2 hT f01)))))
  clear hP hQ f01 h1 h2 hw1 hbx hT
  obtain ⟨ws, hws⟩ := HP.out.1.set
  obtain ⟨cs, hcs⟩ := HP.out.2.1.set
  (with_reducible refine (join_any w1 b c v v2 B C ws cs hws hcs hl.out).mono ?_)
  rintro e w2 ⟨rfl, ws', hs, f2⟩
  have hr1 := HP.out.1.ref.beside hws f2
  have hr2 := HP.out.2.1.ref.beside hws f2
  have HS := Lib.hid (And.intro hs (And.intro f2 (And.intro hr1 hr2)))
  clear hs f2 hr1 hr2 hws hcs
  go_wp2_with fail
  (with_reducible refine (rjoin_any w2 m n u u2 B C HS.out.2.2.1 HS.out.2.2.2 hl.out).mono ?_)
  rintro e w3 ⟨rfl, hr, f3⟩
  have hs3 := HS.out.1.beside HS.out.2.2.1 f3
  have HR := Lib.hid (And.intro hr (And.intro f3 hs3))
  clear hr f3 hs3
  go_wp2_with fail
  refine bodyPost_ret (v := .bool true) (by simp [results, Tryd.results30, go_sem]) rfl ⟨rfl, ⟨⟨_, HR.out.2.2⟩, HR.out.1⟩, ((HP.out.2.2.1.mono (T := v.ownBlock.toList ++ u.ownBlock.toList) (by simp)).trans HS.out.2.1 (fun y hy => .inl (List.mem_append_left _ hy))).trans HR.out.2.1 (fun y hy => .inl (List.mem_append_right _ hy))⟩
set_option maxRecDepth 100000 in
set_option maxHeartbeats 4000000 in
theorem bit_join_ne (w : World) (b c m n : Nat) (v u v2 u2 : Value) (B C : List Bool) (onn wi i : Int) (h1 : PB b m v u B w) (h2 : PB c n v2 u2 C w) (hT : DeB w) (hl : Hid (B.length ≠ C.length)) :
    Calls Tryd.prog 30 #[.pointer (some ⟨b, 0, none⟩), .pointer (some ⟨c, 0, none⟩), .pointer (some ⟨m, 0, none⟩), .pointer (some ⟨n, 0, none⟩), .agg #[.int .i64 6, .int .i64 onn, .int .i64 wi, .int .i64 i]] w (BitPost w b m v u B) := by
  have hb1 := Blk.new w #[.int .i64 6, .int .i64 onn, .int .i64 wi, .int .i64 i] 86
  have f01 : Fr [] w (w.alloc (.cells #[.int .i64 6, .int .i64 onn, .int .i64 wi, .int .i64 i] 86)) := (Fr.refl [] w).alloc _
  have d0 := hb1.at 0 (v := .int .i64 6) rfl
  have d3 := hb1.at 3 (v := .int .i64 i) rfl
  have HH := Lib.hid (And.intro h1 (And.intro h2 (And.intro f01 (And.intro hb1 hT))))
  clear f01 h1 h2 hb1 hT
  go_enter Tryd.func30, Tryd.ntmps30
  go_wp2_with fail
  obtain ⟨h1, h2, f01, hb1, hT⟩ := HH.out
  clear HH d0 d3
  obtain ⟨w1, hw1⟩ : ∃ w1, w.alloc (.cells #[.int .i64 6, .int .i64 onn, .int .i64 wi, .int .i64 i] 86) = w1 := ⟨_, rfl⟩
  obtain ⟨bx, hbx⟩ : ∃ bx, bx = w.heap.size := ⟨_, rfl⟩
  rw [← hbx] at hb1 ⊢
  rw [hw1] at hb1 f01 ⊢
  have hP := h1.grow f01
  have hQ := h2.grow f01
  have HP := Lib.hid (And.intro hP (And.intro hQ (And.intro f01 (And.intro hb1 (deB_fr2 hT f01)))))
  clear hP hQ f01 h1 h2 hw1 hbx hT
  obtain ⟨ws, hws⟩ := HP.out.1.set
  obtain ⟨cs, hcs⟩ := HP.out.2.1.set
  (with_reducible refine (join_ne w1 b c v v2 B C ws cs hws hcs hl.out).mono ?_)
  rintro e w2 ⟨rfl, f2⟩
  have hp2 := HP.out.1.grow f2
  have hq2 := HP.out.2.1.grow f2
  have HS := Lib.hid (And.intro f2 (And.intro hp2 hq2))
  clear f2 hp2 hq2 hws hcs
  go_wp2_with fail
  (with_reducible refine (rwith_ne w2 m n u u2 B C 0 HS.out.2.1.ref HS.out.2.2.ref hl.out).mono ?_)
  rintro e w3 ⟨rfl, f3⟩
  have HR := Lib.hid f3
  clear f3
  go_wp2_with fail
  refine bodyPost_ret (v := .bool true) (by simp [results, Tryd.results30, go_sem]) rfl ⟨rfl, HS.out.2.1.grow HR.out, ((HP.out.2.2.1.trans HS.out.1 (by simp)).trans HR.out (by simp)).mono (by simp)⟩
set_option maxRecDepth 100000 in
set_option maxHeartbeats 4000000 in
theorem bit_cut (w : World) (b c m n : Nat) (v u v2 u2 : Value) (B C : List Bool) (onn wi i : Int) (h1 : PB b m v u B w) (h2 : PB c n v2 u2 C w) (hT : DeB w) (hl : Hid (B.length = C.length)) :
    Calls Tryd.prog 30 #[.pointer (some ⟨b, 0, none⟩), .pointer (some ⟨c, 0, none⟩), .pointer (some ⟨m, 0, none⟩), .pointer (some ⟨n, 0, none⟩), .agg #[.int .i64 7, .int .i64 onn, .int .i64 wi, .int .i64 i]] w (BitPost w b m v u (zipB cutF B C)) := by
  have hb1 := Blk.new w #[.int .i64 7, .int .i64 onn, .int .i64 wi, .int .i64 i] 86
  have f01 : Fr [] w (w.alloc (.cells #[.int .i64 7, .int .i64 onn, .int .i64 wi, .int .i64 i] 86)) := (Fr.refl [] w).alloc _
  have d0 := hb1.at 0 (v := .int .i64 7) rfl
  have d3 := hb1.at 3 (v := .int .i64 i) rfl
  have HH := Lib.hid (And.intro h1 (And.intro h2 (And.intro f01 (And.intro hb1 hT))))
  clear f01 h1 h2 hb1 hT
  go_enter Tryd.func30, Tryd.ntmps30
  go_wp2_with fail
  obtain ⟨h1, h2, f01, hb1, hT⟩ := HH.out
  clear HH d0 d3
  obtain ⟨w1, hw1⟩ : ∃ w1, w.alloc (.cells #[.int .i64 7, .int .i64 onn, .int .i64 wi, .int .i64 i] 86) = w1 := ⟨_, rfl⟩
  obtain ⟨bx, hbx⟩ : ∃ bx, bx = w.heap.size := ⟨_, rfl⟩
  rw [← hbx] at hb1 ⊢
  rw [hw1] at hb1 f01 ⊢
  have hP := h1.grow f01
  have hQ := h2.grow f01
  have HP := Lib.hid (And.intro hP (And.intro hQ (And.intro f01 (And.intro hb1 (deB_fr2 hT f01)))))
  clear hP hQ f01 h1 h2 hw1 hbx hT
  obtain ⟨ws, hws⟩ := HP.out.1.set
  obtain ⟨cs, hcs⟩ := HP.out.2.1.set
  (with_reducible refine (cut_any w1 b c v v2 B C ws cs hws hcs hl.out).mono ?_)
  rintro e w2 ⟨rfl, ws', hs, f2⟩
  have hr1 := HP.out.1.ref.beside hws f2
  have hr2 := HP.out.2.1.ref.beside hws f2
  have HS := Lib.hid (And.intro hs (And.intro f2 (And.intro hr1 hr2)))
  clear hs f2 hr1 hr2 hws hcs
  go_wp2_with fail
  (with_reducible refine (rcut_any w2 m n u u2 B C HS.out.2.2.1 HS.out.2.2.2 hl.out).mono ?_)
  rintro e w3 ⟨rfl, hr, f3⟩
  have hs3 := HS.out.1.beside HS.out.2.2.1 f3
  have HR := Lib.hid (And.intro hr (And.intro f3 hs3))
  clear hr f3 hs3
  go_wp2_with fail
  refine bodyPost_ret (v := .bool true) (by simp [results, Tryd.results30, go_sem]) rfl ⟨rfl, ⟨⟨_, HR.out.2.2⟩, HR.out.1⟩, ((HP.out.2.2.1.mono (T := v.ownBlock.toList ++ u.ownBlock.toList) (by simp)).trans HS.out.2.1 (fun y hy => .inl (List.mem_append_left _ hy))).trans HR.out.2.1 (fun y hy => .inl (List.mem_append_right _ hy))⟩
set_option maxRecDepth 100000 in
set_option maxHeartbeats 4000000 in
theorem bit_cut_ne (w : World) (b c m n : Nat) (v u v2 u2 : Value) (B C : List Bool) (onn wi i : Int) (h1 : PB b m v u B w) (h2 : PB c n v2 u2 C w) (hT : DeB w) (hl : Hid (B.length ≠ C.length)) :
    Calls Tryd.prog 30 #[.pointer (some ⟨b, 0, none⟩), .pointer (some ⟨c, 0, none⟩), .pointer (some ⟨m, 0, none⟩), .pointer (some ⟨n, 0, none⟩), .agg #[.int .i64 7, .int .i64 onn, .int .i64 wi, .int .i64 i]] w (BitPost w b m v u B) := by
  have hb1 := Blk.new w #[.int .i64 7, .int .i64 onn, .int .i64 wi, .int .i64 i] 86
  have f01 : Fr [] w (w.alloc (.cells #[.int .i64 7, .int .i64 onn, .int .i64 wi, .int .i64 i] 86)) := (Fr.refl [] w).alloc _
  have d0 := hb1.at 0 (v := .int .i64 7) rfl
  have d3 := hb1.at 3 (v := .int .i64 i) rfl
  have HH := Lib.hid (And.intro h1 (And.intro h2 (And.intro f01 (And.intro hb1 hT))))
  clear f01 h1 h2 hb1 hT
  go_enter Tryd.func30, Tryd.ntmps30
  go_wp2_with fail
  obtain ⟨h1, h2, f01, hb1, hT⟩ := HH.out
  clear HH d0 d3
  obtain ⟨w1, hw1⟩ : ∃ w1, w.alloc (.cells #[.int .i64 7, .int .i64 onn, .int .i64 wi, .int .i64 i] 86) = w1 := ⟨_, rfl⟩
  obtain ⟨bx, hbx⟩ : ∃ bx, bx = w.heap.size := ⟨_, rfl⟩
  rw [← hbx] at hb1 ⊢
  rw [hw1] at hb1 f01 ⊢
  have hP := h1.grow f01
  have hQ := h2.grow f01
  have HP := Lib.hid (And.intro hP (And.intro hQ (And.intro f01 (And.intro hb1 (deB_fr2 hT f01)))))
  clear hP hQ f01 h1 h2 hw1 hbx hT
  obtain ⟨ws, hws⟩ := HP.out.1.set
  obtain ⟨cs, hcs⟩ := HP.out.2.1.set
  (with_reducible refine (cut_ne w1 b c v v2 B C ws cs hws hcs hl.out).mono ?_)
  rintro e w2 ⟨rfl, f2⟩
  have hp2 := HP.out.1.grow f2
  have hq2 := HP.out.2.1.grow f2
  have HS := Lib.hid (And.intro f2 (And.intro hp2 hq2))
  clear f2 hp2 hq2 hws hcs
  go_wp2_with fail
  (with_reducible refine (rwith_ne w2 m n u u2 B C 1 HS.out.2.1.ref HS.out.2.2.ref hl.out).mono ?_)
  rintro e w3 ⟨rfl, f3⟩
  have HR := Lib.hid f3
  clear f3
  go_wp2_with fail
  refine bodyPost_ret (v := .bool true) (by simp [results, Tryd.results30, go_sem]) rfl ⟨rfl, HS.out.2.1.grow HR.out, ((HP.out.2.2.1.trans HS.out.1 (by simp)).trans HR.out (by simp)).mono (by simp)⟩
set_option maxRecDepth 100000 in
set_option maxHeartbeats 4000000 in
theorem bit_meet (w : World) (b c m n : Nat) (v u v2 u2 : Value) (B C : List Bool) (onn wi i : Int) (h1 : PB b m v u B w) (h2 : PB c n v2 u2 C w) (hT : DeB w) (hl : Hid (B.length = C.length)) :
    Calls Tryd.prog 30 #[.pointer (some ⟨b, 0, none⟩), .pointer (some ⟨c, 0, none⟩), .pointer (some ⟨m, 0, none⟩), .pointer (some ⟨n, 0, none⟩), .agg #[.int .i64 8, .int .i64 onn, .int .i64 wi, .int .i64 i]] w (BitPost w b m v u (zipB meetF B C)) := by
  have hb1 := Blk.new w #[.int .i64 8, .int .i64 onn, .int .i64 wi, .int .i64 i] 86
  have f01 : Fr [] w (w.alloc (.cells #[.int .i64 8, .int .i64 onn, .int .i64 wi, .int .i64 i] 86)) := (Fr.refl [] w).alloc _
  have d0 := hb1.at 0 (v := .int .i64 8) rfl
  have d3 := hb1.at 3 (v := .int .i64 i) rfl
  have HH := Lib.hid (And.intro h1 (And.intro h2 (And.intro f01 (And.intro hb1 hT))))
  clear f01 h1 h2 hb1 hT
  go_enter Tryd.func30, Tryd.ntmps30
  go_wp2_with fail
  obtain ⟨h1, h2, f01, hb1, hT⟩ := HH.out
  clear HH d0 d3
  obtain ⟨w1, hw1⟩ : ∃ w1, w.alloc (.cells #[.int .i64 8, .int .i64 onn, .int .i64 wi, .int .i64 i] 86) = w1 := ⟨_, rfl⟩
  obtain ⟨bx, hbx⟩ : ∃ bx, bx = w.heap.size := ⟨_, rfl⟩
  rw [← hbx] at hb1 ⊢
  rw [hw1] at hb1 f01 ⊢
  have hP := h1.grow f01
  have hQ := h2.grow f01
  have HP := Lib.hid (And.intro hP (And.intro hQ (And.intro f01 (And.intro hb1 (deB_fr2 hT f01)))))
  clear hP hQ f01 h1 h2 hw1 hbx hT
  obtain ⟨ws, hws⟩ := HP.out.1.set
  obtain ⟨cs, hcs⟩ := HP.out.2.1.set
  (with_reducible refine (meet_any w1 b c v v2 B C ws cs hws hcs hl.out).mono ?_)
  rintro e w2 ⟨rfl, ws', hs, f2⟩
  have hr1 := HP.out.1.ref.beside hws f2
  have hr2 := HP.out.2.1.ref.beside hws f2
  have HS := Lib.hid (And.intro hs (And.intro f2 (And.intro hr1 hr2)))
  clear hs f2 hr1 hr2 hws hcs
  go_wp2_with fail
  (with_reducible refine (rmeet_any w2 m n u u2 B C HS.out.2.2.1 HS.out.2.2.2 hl.out).mono ?_)
  rintro e w3 ⟨rfl, hr, f3⟩
  have hs3 := HS.out.1.beside HS.out.2.2.1 f3
  have HR := Lib.hid (And.intro hr (And.intro f3 hs3))
  clear hr f3 hs3
  go_wp2_with fail
  refine bodyPost_ret (v := .bool true) (by simp [results, Tryd.results30, go_sem]) rfl ⟨rfl, ⟨⟨_, HR.out.2.2⟩, HR.out.1⟩, ((HP.out.2.2.1.mono (T := v.ownBlock.toList ++ u.ownBlock.toList) (by simp)).trans HS.out.2.1 (fun y hy => .inl (List.mem_append_left _ hy))).trans HR.out.2.1 (fun y hy => .inl (List.mem_append_right _ hy))⟩
set_option maxRecDepth 100000 in
set_option maxHeartbeats 4000000 in
theorem bit_meet_ne (w : World) (b c m n : Nat) (v u v2 u2 : Value) (B C : List Bool) (onn wi i : Int) (h1 : PB b m v u B w) (h2 : PB c n v2 u2 C w) (hT : DeB w) (hl : Hid (B.length ≠ C.length)) :
    Calls Tryd.prog 30 #[.pointer (some ⟨b, 0, none⟩), .pointer (some ⟨c, 0, none⟩), .pointer (some ⟨m, 0, none⟩), .pointer (some ⟨n, 0, none⟩), .agg #[.int .i64 8, .int .i64 onn, .int .i64 wi, .int .i64 i]] w (BitPost w b m v u B) := by
  have hb1 := Blk.new w #[.int .i64 8, .int .i64 onn, .int .i64 wi, .int .i64 i] 86
  have f01 : Fr [] w (w.alloc (.cells #[.int .i64 8, .int .i64 onn, .int .i64 wi, .int .i64 i] 86)) := (Fr.refl [] w).alloc _
  have d0 := hb1.at 0 (v := .int .i64 8) rfl
  have d3 := hb1.at 3 (v := .int .i64 i) rfl
  have HH := Lib.hid (And.intro h1 (And.intro h2 (And.intro f01 (And.intro hb1 hT))))
  clear f01 h1 h2 hb1 hT
  go_enter Tryd.func30, Tryd.ntmps30
  go_wp2_with fail
  obtain ⟨h1, h2, f01, hb1, hT⟩ := HH.out
  clear HH d0 d3
  obtain ⟨w1, hw1⟩ : ∃ w1, w.alloc (.cells #[.int .i64 8, .int .i64 onn, .int .i64 wi, .int .i64 i] 86) = w1 := ⟨_, rfl⟩
  obtain ⟨bx, hbx⟩ : ∃ bx, bx = w.heap.size := ⟨_, rfl⟩
  rw [← hbx] at hb1 ⊢
  rw [hw1] at hb1 f01 ⊢
  have hP := h1.grow f01
  have hQ := h2.grow f01
  have HP := Lib.hid (And.intro hP (And.intro hQ (And.intro f01 (And.intro hb1 (deB_fr2 hT f01)))))
  clear hP hQ f01 h1 h2 hw1 hbx hT
  obtain ⟨ws, hws⟩ := HP.out.1.set
  obtain ⟨cs, hcs⟩ := HP.out.2.1.set
  (with_reducible refine (meet_ne w1 b c v v2 B C ws cs hws hcs hl.out).mono ?_)
  rintro e w2 ⟨rfl, f2⟩
  have hp2 := HP.out.1.grow f2
  have hq2 := HP.out.2.1.grow f2
  have HS := Lib.hid (And.intro f2 (And.intro hp2 hq2))
  clear f2 hp2 hq2 hws hcs
  go_wp2_with fail
  (with_reducible refine (rwith_ne w2 m n u u2 B C 2 HS.out.2.1.ref HS.out.2.2.ref hl.out).mono ?_)
  rintro e w3 ⟨rfl, f3⟩
  have HR := Lib.hid f3
  clear f3
  go_wp2_with fail
  refine bodyPost_ret (v := .bool true) (by simp [results, Tryd.results30, go_sem]) rfl ⟨rfl, HS.out.2.1.grow HR.out, ((HP.out.2.2.1.trans HS.out.1 (by simp)).trans HR.out (by simp)).mono (by simp)⟩
end Go.Proofs.YtgoolkgjcmdilaaDoor
