/-
  done: a step's answer is the document's.
-/
import Derived.Test.YtgoolkgjcmdilaaDoorDonA
namespace Go.Proofs.YtgoolkgjcmdilaaDoor
open Go.RowKit
set_option linter.unusedVariables false
set_option linter.unusedSimpArgs false
attribute [local go_sem] Oper.semAt_some

/-- A table and the document's. -/
structure PT (b c : Nat) (v u : Value) (R : IPs) (room : Int) (W : World) : Prop where
  tab : TabV W b v (mapV R) room
  ref : RefT W c u R room
  rm : room ≤ 65536
def PS (b c : Nat) (v u : Value) : List Nat := b :: c :: (v.ownBlock.toList ++ u.ownBlock.toList)
theorem PT.grow {b c : Nat} {v u : Value} {R : IPs} {room : Int} {W W' : World} (h : PT b c v u R room W) (f : Fr [] W W') : PT b c v u R room W' := ⟨h.tab.grow f, h.ref.grow f, h.rm⟩
theorem own_ne2 {w : World} {e e' : TypeId} {s s' k k' g : Nat} {v v' : Value} {xs xs' : List Value} (h : w.ownsRow 0 e s v k xs) (h' : w.ownsRow 0 e' s' v' k' xs') (hn : e ≠ e') (hg : v.ownBlock = some g) : v'.ownBlock ≠ some g := by
  intro hg'
  rcases h.2 with ⟨rfl, _⟩ | ⟨a, _, _, rfl, _, ha, _⟩
  · simp [Value.ownBlock] at hg
  · rcases h'.2 with ⟨rfl, _⟩ | ⟨b, _, _, rfl, _, hb, _⟩
    · simp [Value.ownBlock] at hg'
    · simp [Value.ownBlock] at hg hg'
      subst hg; subst hg'
      rw [ha] at hb
      simp at hb
      exact hn hb.2
theorem notin_tab {W : World} {b : Nat} {v : Value} {Ps : VPL} {room : Int} (h : TabV W b v Ps room) {k : Nat} {c : Array Value} {e : TypeId} (hk : Blk W k c e) (h1 : e ≠ 68) (h2 : e ≠ 143) : k ∉ b :: v.ownBlock.toList := by
  intro hm
  rcases List.mem_cons.1 hm with e | hm
  · subst e; exact h1 (hk.inj h.hd).2
  · exact own_notin h.own hk (Ne.symm h2) hm
theorem notin_ref {W : World} {b : Nat} {v : Value} {R : IPs} {room : Int} (h : RefT W b v R room) {k : Nat} {c : Array Value} {e : TypeId} (hk : Blk W k c e) (h1 : e ≠ 52) (h2 : e ≠ 154) : k ∉ b :: v.ownBlock.toList := by
  intro hm
  rcases List.mem_cons.1 hm with e | hm
  · subst e; exact h1 (hk.inj h.hd).2
  · exact own_notin h.own hk (Ne.symm h2) hm
theorem own_tab {W : World} {b : Nat} {v : Value} {Ps : VPL} {room : Int} (h : TabV W b v Ps room) {e s n g : Nat} {u : Value} {xs : List Value} (hk : W.ownsRow 0 e s u n xs) (h1 : e ≠ 68) (h2 : e ≠ 143) (hg : u.ownBlock = some g) : g ∉ b :: v.ownBlock.toList := by
  obtain ⟨c, hc⟩ := own_blk hk g (by simp [hg])
  exact notin_tab h hc h1 h2
theorem own_ref {W : World} {b : Nat} {v : Value} {R : IPs} {room : Int} (h : RefT W b v R room) {e s n g : Nat} {u : Value} {xs : List Value} (hk : W.ownsRow 0 e s u n xs) (h1 : e ≠ 52) (h2 : e ≠ 154) (hg : u.ownBlock = some g) : g ∉ b :: v.ownBlock.toList := by
  obtain ⟨c, hc⟩ := own_blk hk g (by simp [hg])
  exact notin_ref h hc h1 h2
/-- The document's table lies beside the other; the other beside it. -/
theorem RefT.beside {W W' : World} {b c : Nat} {v u : Value} {Ps : VPL} {R : IPs} {room room' : Int} (h : RefT W c u R room) (ht : TabV W b v Ps room') (f : Fr (b :: v.ownBlock.toList) W W') : RefT W' c u R room :=
  h.fr f (notin_tab ht h.hd (by decide) (by decide)) (fun g hg => own_tab ht h.own (by decide) (by decide) hg)
theorem TabV.beside {W W' : World} {b c : Nat} {v u : Value} {Ps : VPL} {R : IPs} {room room' : Int} (h : TabV W b v Ps room) (ht : RefT W c u R room') (f : Fr (c :: u.ownBlock.toList) W W') : TabV W' b v Ps room :=
  h.fr f (notin_ref ht h.hd (by decide) (by decide)) (fun g hg => own_ref ht h.own (by decide) (by decide) hg)
/-- A step has been done right. -/
def DonePost (w : World) (b c : Nat) (v u : Value) (Q : IPs) (room : Int) (e : Ending) (w' : World) : Prop :=
  e = .returned (.bool true) ∧ ∃ v' u', PT b c v' u' Q room w' ∧ (∀ g, g ∈ PS b c v' u' → g ∈ PS b c v u ∨ w.heap.size ≤ g) ∧ Fr (PS b c v u) w w'
theorem ps_of {b c : Nat} {v u v' u' : Value} {n m : Nat} (h1 : ∀ g, v'.ownBlock = some g → v.ownBlock = some g ∨ n ≤ g) (h2 : ∀ g, u'.ownBlock = some g → u.ownBlock = some g ∨ m ≤ g) (hm : n ≤ m) : ∀ g, g ∈ PS b c v' u' → g ∈ PS b c v u ∨ n ≤ g := by
  intro g hg
  unfold PS at hg ⊢
  simp only [List.mem_cons, List.mem_append, Option.mem_toList] at hg ⊢
  rcases hg with hg | hg | hg | hg
  · exact .inl (.inl hg)
  · exact .inl (.inr (.inl hg))
  · exact (h1 g hg).imp (fun h => .inr (.inr (.inl h))) id
  · exact (h2 g hg).imp (fun h => .inr (.inr (.inr h))) (fun h => Nat.le_trans hm h)
theorem ps_tab (b c : Nat) (v u : Value) : ∀ x, x ∈ b :: v.ownBlock.toList → x ∈ PS b c v u := by
  intro x hx
  unfold PS
  simp only [List.mem_cons, List.mem_append, Option.mem_toList] at hx ⊢
  rcases hx with h | h
  · exact .inl h
  · exact .inr (.inr (.inl h))
theorem ps_ref (b c : Nat) (v u : Value) : ∀ x, x ∈ c :: u.ownBlock.toList → x ∈ PS b c v u := by
  intro x hx
  unfold PS
  simp only [List.mem_cons, List.mem_append, Option.mem_toList] at hx ⊢
  rcases hx with h | h
  · exact .inr (.inl h)
  · exact .inr (.inr (.inr h))

/-- In the midst of the region that puts. -/
structure RgP (w1 : World) (b : Nat) (v : Value) (R : IPs) (room id x : Int) (p : Nat → Prop) (tm : Nat → Option Value) (W : World) : Prop where
  fr : Fr (b :: v.ownBlock.toList) w1 W
  old : ¬ p 6 → TabV W b v (mapV R) room
  new : p 6 → ∃ v', TabV W b v' (mapV (putR R room id x)) room ∧ ∀ g, v'.ownBlock = some g → v.ownBlock = some g ∨ w1.heap.size ≤ g
  al : p 10 → ∃ k c0 c1, tm 7 = some (.pointer (some ⟨k, 0, none⟩)) ∧ w1.heap.size ≤ k ∧ Blk W k #[c0, c1] 29 ∧ (p 11 → #[c0, c1] = #[.int .i64 (putA R room id).1, .string (sv (putA R room id).1)])
theorem RgP.keep {w1 W W' : World} {b : Nat} {v : Value} {R : IPs} {room id x : Int} {p : Nat → Prop} {tm tm' : Nat → Option Value} (h : RgP w1 b v R room id x p tm W) {i : Nat} (h6 : 6 ≠ i) (h10 : 10 ≠ i) (h11 : 11 ≠ i) (f : Fr [] W W') (ht : tm' 7 = tm 7) : RgP w1 b v R room id x (fun k => p k ∨ k = i) tm' W' := by
  refine ⟨h.fr.trans f (by simp), fun hn => (h.old (fun hp => hn (.inl hp))).grow f, fun hp => ?_, fun hp => ?_⟩
  · obtain ⟨v', h1, h2⟩ := h.new (hp.resolve_right h6)
    exact ⟨v', h1.grow f, h2⟩
  · obtain ⟨k, c0, c1, e1, e2, e3, e4⟩ := h.al (hp.resolve_right h10)
    exact ⟨k, c0, c1, ht.trans e1, e2, f.blk e3 (by simp), fun hq => e4 (hq.resolve_right h11)⟩
theorem put_other {a : Act} {d t : Nat} (v : Value) (h : d ≠ t) : (a.put (some d) v).tmps[t]? = a.tmps[t]? := by
  unfold Act.put
  simp [Array.getElem?_setIfInBounds_ne h]
set_option maxRecDepth 100000 in
set_option maxHeartbeats 4000000 in
theorem done_put (w : World) (b c : Nat) (v u : Value) (R : IPs) (room id x : Int) (oth all : Bool) (h : PT b c v u R room w) (hi : U32 id) :
    Calls Tryd.prog 21 #[.pointer (some ⟨b, 0, none⟩), .pointer (some ⟨c, 0, none⟩), .agg #[.int .i64 0, .bool oth, .int .u32 id, .int .i64 x, .bool all]] w (DonePost w b c v u (putR R room id x) room) := by
  have hb1 := Blk.new w #[.int .i64 0, .bool oth, .int .u32 id, .int .i64 x, .bool all] 55
  have f01 : Fr [] w (w.alloc (.cells #[.int .i64 0, .bool oth, .int .u32 id, .int .i64 x, .bool all] 55)) := (Fr.refl [] w).alloc _
  have d0 := hb1.at 0 (v := .int .i64 0) rfl
  have d2 := hb1.at 2 (v := .int .u32 id) rfl
  have d3 := hb1.at 3 (v := .int .i64 x) rfl
  have d4 := hb1.at 4 (v := .bool all) rfl
  have HH := Lib.hid (And.intro h (And.intro f01 (And.intro hb1 hi)))
  clear f01 h hi hb1
  go_enter Tryd.func21, Tryd.ntmps21
  go_wp2_with fail
  obtain ⟨h, f01, hb1, hi⟩ := HH.out
  clear HH d0 d2 d3 d4
  obtain ⟨w1, hw1⟩ : ∃ w1, w.alloc (.cells #[.int .i64 0, .bool oth, .int .u32 id, .int .i64 x, .bool all] 55) = w1 := ⟨_, rfl⟩
  obtain ⟨bx, hbx⟩ : ∃ bx, bx = w.heap.size := ⟨_, rfl⟩
  rw [← hbx] at hb1 ⊢
  rw [hw1] at hb1 f01 ⊢
  have hP := h.grow f01
  have HP := Lib.hid (And.intro hP (And.intro f01 (And.intro hb1 hbx)))
  have HI := Lib.hid hi
  clear hP f01 h hi hw1 hbx
  refine region_chg (by kernel_rfl) (by kernel_rfl) [some (.pointer (some ⟨b, 0, none⟩)), some (.pointer (some ⟨bx, 2, none⟩)), some (.int .u32 id), some (.pointer (some ⟨bx, 3, none⟩)), some (.int .i64 x), some (vV x), some (.tuple #[vV (putA R room id).1, .int .i64 (putA R room id).2]), some (.tuple #[vV (putA R room id).1, .int .i64 (putA R room id).2]), some (vV (putA R room id).1), some (.int .i64 (putA R room id).2), none, none, some (.int .i64 (putA R room id).2)] (RgP w1 b v R room id x) 188 rfl (by kernel_rfl) [(0, 31), (1, 32), (2, 33), (3, 34), (4, 35), (5, 36), (6, 37), (7, 30), (8, 38), (9, 39), (10, 7), (12, 8)] (by kernel_rfl) (⟨(Fr.refl _ _).drew, fun _ => HP.out.1.tab.grow (Fr.refl [] w1).drew, fun h => h.elim, fun h => h.elim⟩) ?_ ?_
  · intro q a1 W1 i hi hnq hd hG K hK
    have hlt : i < 13 := hi
    have hc : i = 0 ∨ i = 1 ∨ i = 2 ∨ i = 3 ∨ i = 4 ∨ i = 5 ∨ i = 6 ∨ i = 7 ∨ i = 8 ∨ i = 9 ∨ i = 10 ∨ i = 11 ∨ i = 12 := by omega
    have hΨ := hG.world
    rcases hc with rfl | rfl | rfl | rfl | rfl | rfl | rfl | rfl | rfl | rfl | rfl | rfl | rfl
    · have e0 := hG.old 0 (by kernel_rfl)
      refine op_doC rfl (wanted_none rfl) hK (fun K' hK' => ?_)
      unfold Oper.wp
      go_simp
      exact hK' _ _ (fun u hu => by cases hu; rfl) (hΨ.keep (by decide) (by decide) (by decide) (Fr.refl _ _) (put_other _ (by decide)))
    · have e5 := hG.old 5 (by kernel_rfl)
      refine op_doC rfl (wanted_none rfl) hK (fun K' hK' => ?_)
      unfold Oper.wp
      go_simp
      exact hK' _ _ (fun u hu => by cases hu; rfl) (hΨ.keep (by decide) (by decide) (by decide) (Fr.refl _ _) (put_other _ (by decide)))
    · have e32 := hG.val (v := .pointer (some ⟨bx, 2, none⟩)) 1 32 (hd _ rfl ⟨1, .data⟩ (by simp) rfl) rfl rfl
      have db := hΨ.fr.blk hb1 (notin_tab HP.out.1.tab hb1 (by decide) (by decide))
      have m2 := db.at 2 (v := .int .u32 id) rfl
      have m3 := db.at 3 (v := .int .i64 x) rfl
      refine op_doC rfl (wanted_none rfl) hK (fun K' hK' => ?_)
      unfold Oper.wp
      go_simp
      exact hK' _ _ (fun u hu => by cases hu; rfl) (hΨ.keep (by decide) (by decide) (by decide) (Fr.refl _ _) (put_other _ (by decide)))
    · have e5 := hG.old 5 (by kernel_rfl)
      refine op_doC rfl (wanted_none rfl) hK (fun K' hK' => ?_)
      unfold Oper.wp
      go_simp
      exact hK' _ _ (fun u hu => by cases hu; rfl) (hΨ.keep (by decide) (by decide) (by decide) (Fr.refl _ _) (put_other _ (by decide)))
    · have e34 := hG.val (v := .pointer (some ⟨bx, 3, none⟩)) 3 34 (hd _ rfl ⟨3, .data⟩ (by simp) rfl) rfl rfl
      have db := hΨ.fr.blk hb1 (notin_tab HP.out.1.tab hb1 (by decide) (by decide))
      have m2 := db.at 2 (v := .int .u32 id) rfl
      have m3 := db.at 3 (v := .int .i64 x) rfl
      refine op_doC rfl (wanted_none rfl) hK (fun K' hK' => ?_)
      unfold Oper.wp
      go_simp
      exact hK' _ _ (fun u hu => by cases hu; rfl) (hΨ.keep (by decide) (by decide) (by decide) (Fr.refl _ _) (put_other _ (by decide)))
    · have e35 := hG.val (v := .int .i64 x) 4 35 (hd _ rfl ⟨4, .data⟩ (by simp) rfl) rfl rfl
      refine op_doC rfl (wanted_none rfl) hK (fun K' hK' => ?_)
      unfold Oper.wp
      go_simp
      refine (of_any W1 x).mono ?_
      rintro e W2 ⟨rfl, f⟩
      exact hK' _ _ (fun u hu => by cases hu; rfl) (hΨ.keep (by decide) (by decide) (by decide) (f) (put_other _ (by decide)))
    · have e31 := hG.val (v := .pointer (some ⟨b, 0, none⟩)) 0 31 (hd _ rfl ⟨0, .data⟩ (by simp) rfl) rfl rfl
      have e33 := hG.val (v := .int .u32 id) 2 33 (hd _ rfl ⟨2, .data⟩ (by simp) rfl) rfl rfl
      have e36 := hG.val (v := vV x) 5 36 (hd _ rfl ⟨5, .data⟩ (by simp) rfl) rfl rfl
      refine op_doC rfl (wanted_none rfl) hK (fun K' hK' => ?_)
      unfold Oper.wp
      go_simp
      refine (tput_any W1 b v R room id x (hΨ.old hnq) HI.out HP.out.1.ref.up).mono ?_
      rintro e W2 ⟨rfl, v', ht, hg, f⟩
      refine hK' _ _ (fun u hu => by cases hu; rfl) ⟨hΨ.fr.trans f (fun x hx => .inl hx), fun hn => absurd (.inr rfl) hn, fun _ => ⟨v', ht, fun g hgg => (hg g hgg).imp (fun h => h) (fun h => Nat.le_trans hΨ.fr.size h)⟩, fun hp => ?_⟩
      obtain ⟨k, c0, c1, e1, e2, e3, e4⟩ := hΨ.al (hp.resolve_right (by decide))
      exact ⟨k, c0, c1, (put_other _ (by decide)).trans e1, e2, f.blk e3 (notin_tab (hΨ.old hnq) e3 (by decide) (by decide)), fun hq => e4 (hq.resolve_right (by decide))⟩
    · have e37 := hG.val (v := .tuple #[vV (putA R room id).1, .int .i64 (putA R room id).2]) 6 37 (hd _ rfl ⟨6, .data⟩ (by simp) rfl) rfl rfl
      refine op_doC rfl (wanted_none rfl) hK (fun K' hK' => ?_)
      unfold Oper.wp
      go_simp
      exact hK' _ _ (fun u hu => by cases hu; rfl) (hΨ.keep (by decide) (by decide) (by decide) (Fr.refl _ _) (put_other _ (by decide)))
    · have e30 := hG.val (v := .tuple #[vV (putA R room id).1, .int .i64 (putA R room id).2]) 7 30 (hd _ rfl ⟨7, .data⟩ (by simp) rfl) rfl rfl
      refine op_doC rfl (wanted_none rfl) hK (fun K' hK' => ?_)
      unfold Oper.wp
      go_simp
      exact hK' _ _ (fun u hu => by cases hu; rfl) (hΨ.keep (by decide) (by decide) (by decide) (Fr.refl _ _) (put_other _ (by decide)))
    · have e30 := hG.val (v := .tuple #[vV (putA R room id).1, .int .i64 (putA R room id).2]) 7 30 (hd _ rfl ⟨7, .data⟩ (by simp) rfl) rfl rfl
      refine op_doC rfl (wanted_none rfl) hK (fun K' hK' => ?_)
      unfold Oper.wp
      go_simp
      exact hK' _ _ (fun u hu => by cases hu; rfl) (hΨ.keep (by decide) (by decide) (by decide) (Fr.refl _ _) (put_other _ (by decide)))
    · refine op_doC rfl (wanted_none rfl) hK (fun K' hK' => ?_)
      unfold Oper.wp
      go_simp
      refine hK' _ _ (fun u hu => by cases hu) ⟨hΨ.fr.alloc _, fun hn => (hΨ.old (fun hp => hn (.inl hp))).grow ((Fr.refl [] W1).alloc _), fun hp => ?_, fun hp => ?_⟩
      · obtain ⟨v', h1, h2⟩ := hΨ.new (hp.resolve_right (by decide))
        exact ⟨v', h1.grow ((Fr.refl [] W1).alloc _), h2⟩
      · refine ⟨W1.heap.size, _, _, ?_, hΨ.fr.size, Blk.new W1 _ _, fun hq => ?_⟩
        · have h7 : 7 < a1.tmps.size := by rw [hG.size]; show 7 < 188; decide
          unfold Act.put
          simp [Array.getElem?_setIfInBounds, h7]
        · exact absurd (hG.closed 11 (hq.resolve_right (by decide)) _ rfl ⟨10, .data⟩ (by simp) rfl) hnq
    · have e38 := hG.val (v := vV (putA R room id).1) 8 38 (hd _ rfl ⟨8, .data⟩ (by simp) rfl) rfl rfl
      obtain ⟨k, c0, c1, ktm, kge, kb, -⟩ := hΨ.al (hd _ rfl ⟨10, .data⟩ (by simp) rfl)
      have kt2 : a1.tmps[7]? = some (.pointer (some ⟨k, 0, none⟩)) := ktm
      have kc0 := kb.at 0 (v := c0) rfl
      have kc1 := kb.at 1 (v := c1) rfl
      have kf0 := kb.free 0
      have kf1 := kb.free 1
      simp only [vV] at e38
      refine op_doC rfl (wanted_none rfl) hK (fun K' hK' => ?_)
      unfold Oper.wp
      go_simp
      obtain ⟨fr0, hold, hnew, hal⟩ := hΨ
      have fS : Fr (b :: v.ownBlock.toList) w1 ((W1.setCell ⟨k, 0, none⟩ (.int .i64 (putA R room id).1)).setCell ⟨k, 1, none⟩ (.string (sv (putA R room id).1))) := (fr0.setCell _ _ (.inr kge)).setCell _ _ (.inr kge)
      have fK : Fr [k] W1 ((W1.setCell ⟨k, 0, none⟩ (.int .i64 (putA R room id).1)).setCell ⟨k, 1, none⟩ (.string (sv (putA R room id).1))) := ((Fr.refl _ _).setCell _ _ (.inl (by simp))).setCell _ _ (.inl (by simp))
      refine hK' undef _ (fun u hu => by cases hu) ⟨fS, fun hn => ?_, fun hp => ?_, fun hp => ?_⟩
      · have ht := hold (fun hp => hn (.inl hp))
        refine ht.fr fK (fun hm => ?_) (fun g hg hm => ?_)
        · simp at hm; subst hm; have := (ht.hd.inj kb).2; cases this
        · simp at hm; subst hm; exact own_notin ht.own kb (by decide) (by simp [hg])
      · obtain ⟨v', ht, h2⟩ := hnew (hp.resolve_right (by decide))
        refine ⟨v', ht.fr fK (fun hm => ?_) (fun g hg hm => ?_), h2⟩
        · simp at hm; subst hm; have := (ht.hd.inj kb).2; cases this
        · simp at hm; subst hm; exact own_notin ht.own kb (by decide) (by simp [hg])
      · exact ⟨k, _, _, ktm, kge, by simpa using (kb.set 0 _).set 1 _, fun _ => rfl⟩
    · have e39 := hG.val (v := .int .i64 (putA R room id).2) 9 39 (hd _ rfl ⟨9, .data⟩ (by simp) rfl) rfl rfl
      refine op_doC rfl (wanted_none rfl) hK (fun K' hK' => ?_)
      unfold Oper.wp
      go_simp
      exact hK' _ _ (fun u hu => by cases hu; rfl) (hΨ.keep (by decide) (by decide) (by decide) (Fr.refl _ _) (put_other _ (by decide)))
  · intro vs q W1 hq hΨ hv
    have r0 : vs 0 = .pointer (some ⟨b, 0, none⟩) := hv 0 31 _ (by decide) rfl rfl
    have r1 : vs 1 = .pointer (some ⟨bx, 2, none⟩) := hv 1 32 _ (by decide) rfl rfl
    have r2 : vs 2 = .int .u32 id := hv 2 33 _ (by decide) rfl rfl
    have r3 : vs 3 = .pointer (some ⟨bx, 3, none⟩) := hv 3 34 _ (by decide) rfl rfl
    have r4 : vs 4 = .int .i64 x := hv 4 35 _ (by decide) rfl rfl
    have r5 : vs 5 = vV x := hv 5 36 _ (by decide) rfl rfl
    have r6 : vs 6 = .tuple #[vV (putA R room id).1, .int .i64 (putA R room id).2] := hv 6 37 _ (by decide) rfl rfl
    have r7 : vs 7 = .tuple #[vV (putA R room id).1, .int .i64 (putA R room id).2] := hv 7 30 _ (by decide) rfl rfl
    have r8 : vs 8 = vV (putA R room id).1 := hv 8 38 _ (by decide) rfl rfl
    have r9 : vs 9 = .int .i64 (putA R room id).2 := hv 9 39 _ (by decide) rfl rfl
    have r12 : vs 12 = .int .i64 (putA R room id).2 := hv 12 8 _ (by decide) rfl rfl
    simp only [lay, List.foldl_cons, List.foldl_nil, r0, r1, r2, r3, r4, r5, r6, r7, r8, r9, r12] at hΨ ⊢
    simp only [List.setIfInBounds_toArray, List.set_cons_zero, List.set_cons_succ] at hΨ ⊢
    clear hv r0 r1 r2 r3 r4 r5 r6 r7 r8 r9 r12
    generalize vs 10 = x10 at *
    obtain ⟨fr0, -, hnew, hal⟩ := hΨ
    obtain ⟨v', ht, hg⟩ := hnew (hq 6 (by decide))
    obtain ⟨k, c0, c1, ek, kge, kb, kc⟩ := hal (hq 10 (by decide))
    rw [kc (hq 11 (by decide))] at kb
    obtain rfl : x10 = .pointer (some ⟨k, 0, none⟩) := by simpa using ek
    have hR1 : RefT W1 c u R room := HP.out.1.ref.beside HP.out.1.tab fr0
    have db := fr0.blk hb1 (notin_tab HP.out.1.tab hb1 (by decide) (by decide))
    have m2 := db.at 2 (v := .int .u32 id) rfl
    have m3 := db.at 3 (v := .int .i64 x) rfl
    have HR := Lib.hid (rput_any W1 c u R room id x hR1 HI.out HP.out.1.rm)
    have HS := Lib.hid (And.intro fr0 (And.intro ht (And.intro hg (And.intro kb (And.intro kge hR1)))))
    clear fr0 hnew hal ht hg kc kb kge hR1 db hq ek
    go_wp2_with fail
    (with_reducible refine (HR.out).mono ?_)
    rintro e W2 ⟨rfl, u', hu', hug, f2⟩
    have ht2 : TabV W2 b v' (mapV (putR R room id x)) room := HS.out.2.1.beside HS.out.2.2.2.2.2 f2
    have kb2 := f2.blk HS.out.2.2.2.1 (notin_ref HS.out.2.2.2.2.2 HS.out.2.2.2.1 (by decide) (by decide))
    go_wp2_with fail
    refine region_grow (by kernel_rfl) (by kernel_rfl) [.is (vV (putA R room id).1), .is (.int .i64 (putA R room id).1), .is (vV (putA R room id).1), .is (.bool true), .is (.bool true), .is (.int .i64 (putA R room id).2), .is (.int .i64 (putA R room id).2), .is (.bool true), .is (.bool true), .is (.bool true)] 188 rfl (by kernel_rfl) [(0, 49), (1, 50), (2, 51), (3, 52), (4, 53), (5, 54), (6, 55), (7, 56), (8, 57), (9, 6)] (by kernel_rfl) ?_ ?_
    · intro q a1 W1 i hi hnq hd hG K hK
      have hlt : i < 10 := hi
      have hc : i = 0 ∨ i = 1 ∨ i = 2 ∨ i = 3 ∨ i = 4 ∨ i = 5 ∨ i = 6 ∨ i = 7 ∨ i = 8 ∨ i = 9 := by omega
      rcases hc with rfl | rfl | rfl | rfl | rfl | rfl | rfl | rfl | rfl | rfl
      · have e7 := hG.old 7 (by kernel_rfl)
        have kc0 := (hG.grown.cell (a := ⟨k, 0, none⟩) kb2.lt (by simp)).trans (kb2.at 0 rfl)
        have kc1 := (hG.grown.cell (a := ⟨k, 1, none⟩) kb2.lt (by simp)).trans (kb2.at 1 rfl)
        refine op_do rfl (wanted_none rfl) hK (fun K' hK' => ?_)
        unfold Oper.wp
        go_simp
        exact hK' _ _ (Fr.refl _ _) rfl
      · have e9 := hG.old 9 (by kernel_rfl)
        refine op_do rfl (wanted_none rfl) hK (fun K' hK' => ?_)
        unfold Oper.wp
        go_simp
        exact hK' _ _ (Fr.refl _ _) rfl
      · have e50 := hG.val (v := .int .i64 (putA R room id).1) 1 50 (hd _ rfl ⟨1, .data⟩ (by simp) rfl) rfl rfl
        refine op_do rfl (wanted_none rfl) hK (fun K' hK' => ?_)
        unfold Oper.wp
        go_simp
        refine (of_any W1 (putA R room id).1).mono ?_
        rintro e W2 ⟨rfl, f⟩
        exact hK' _ _ f rfl
      · have e49 := hG.val (v := vV (putA R room id).1) 0 49 (hd _ rfl ⟨0, .data⟩ (by simp) rfl) rfl rfl
        have e51 := hG.val (v := vV (putA R room id).1) 2 51 (hd _ rfl ⟨2, .data⟩ (by simp) rfl) rfl rfl
        simp only [vV] at e49 e51
        refine op_do rfl (wanted_none rfl) hK (fun K' hK' => ?_)
        unfold Oper.wp
        go_simp
        exact hK' _ _ (Fr.refl _ _) rfl
      · have e52 := hG.val (v := .bool true) 3 52 (hd _ rfl ⟨3, .data⟩ (by simp) rfl) rfl rfl
        refine op_do rfl (wanted_none rfl) hK (fun K' hK' => ?_)
        unfold Oper.wp
        go_simp
        exact hK' _ _ (Fr.refl _ _) rfl
      · have e8 := hG.old 8 (by kernel_rfl)
        have eg := hG.val (v := .bool true) 4 53 (hd _ rfl ⟨4, .guard⟩ (by simp) rfl) rfl rfl
        refine op_do rfl (by simp [Region.wanted, yielded, eg]) hK (fun K' hK' => ?_)
        unfold Oper.wp
        go_simp
        exact hK' _ _ (Fr.refl _ _) rfl
      · have e10 := hG.old 10 (by kernel_rfl)
        have eg := hG.val (v := .bool true) 4 53 (hd _ rfl ⟨4, .guard⟩ (by simp) rfl) rfl rfl
        refine op_do rfl (by simp [Region.wanted, yielded, eg]) hK (fun K' hK' => ?_)
        unfold Oper.wp
        go_simp
        exact hK' _ _ (Fr.refl _ _) rfl
      · have e54 := hG.val (v := .int .i64 (putA R room id).2) 5 54 (hd _ rfl ⟨5, .data⟩ (by simp) rfl) rfl rfl
        have e55 := hG.val (v := .int .i64 (putA R room id).2) 6 55 (hd _ rfl ⟨6, .data⟩ (by simp) rfl) rfl rfl
        have eg := hG.val (v := .bool true) 4 53 (hd _ rfl ⟨4, .guard⟩ (by simp) rfl) rfl rfl
        refine op_do rfl (by simp [Region.wanted, yielded, eg]) hK (fun K' hK' => ?_)
        unfold Oper.wp
        go_simp
        exact hK' _ _ (Fr.refl _ _) rfl
      · have e53 := hG.val (v := .bool true) 4 53 (hd _ rfl ⟨4, .data⟩ (by simp) rfl) rfl rfl
        have e56 := hG.val (v := .bool true) 7 56 (hd _ rfl ⟨7, .data⟩ (by simp) rfl) rfl rfl
        refine op_do rfl (wanted_none rfl) hK (fun K' hK' => ?_)
        unfold Oper.wp
        go_simp
        exact hK' _ _ (Fr.refl _ _) rfl
      · have e57 := hG.val (v := .bool true) 8 57 (hd _ rfl ⟨8, .data⟩ (by simp) rfl) rfl rfl
        refine op_do rfl (wanted_none rfl) hK (fun K' hK' => ?_)
        unfold Oper.wp
        go_simp
        exact hK' _ _ (Fr.refl _ _) rfl
    · intro vs W1 f1 hv
      have r0 : vs 0 = vV (putA R room id).1 := hv 0 49 (by decide) rfl
      have r1 : vs 1 = .int .i64 (putA R room id).1 := hv 1 50 (by decide) rfl
      have r2 : vs 2 = vV (putA R room id).1 := hv 2 51 (by decide) rfl
      have r3 : vs 3 = .bool true := hv 3 52 (by decide) rfl
      have r4 : vs 4 = .bool true := hv 4 53 (by decide) rfl
      have r5 : vs 5 = .int .i64 (putA R room id).2 := hv 5 54 (by decide) rfl
      have r6 : vs 6 = .int .i64 (putA R room id).2 := hv 6 55 (by decide) rfl
      have r7 : vs 7 = .bool true := hv 7 56 (by decide) rfl
      have r8 : vs 8 = .bool true := hv 8 57 (by decide) rfl
      have r9 : vs 9 = .bool true := hv 9 6 (by decide) rfl
      simp only [lay, List.foldl_cons, List.foldl_nil, r0, r1, r2, r3, r4, r5, r6, r7, r8, r9]
      simp only [List.setIfInBounds_toArray, List.set_cons_zero, List.set_cons_succ]
      clear hv r0 r1 r2 r3 r4 r5 r6 r7 r8 r9
      go_wp2_with fail
      have ht3 := ht2.grow f1
      have hu3 := hu'.grow f1
      have f9 := ((((HP.out.2.1.mono (T := PS b c v u) (by simp)).trans (HS.out.1.mono (fun y hy => .inl (ps_tab b c v u y hy))) (fun y hy => .inl hy)).trans (f2.mono (fun y hy => .inl (ps_ref b c v u y hy))) (fun y hy => .inl hy)).trans (f1.mono (by simp)) (fun y hy => .inl hy))
      refine bodyPost_ret (v := .bool true) (by simp [results, Tryd.results21, go_sem]) rfl ⟨rfl, v', u', ⟨ht3, hu3, HP.out.1.rm⟩, ps_of (fun g hg => (HS.out.2.2.1 g hg).imp (fun h => h) (fun h => Nat.le_trans HP.out.2.1.size h)) (fun g hg => (hug g hg).imp (fun h => h) (fun h => Nat.le_trans HP.out.2.1.size (Nat.le_trans HS.out.1.size h))) (Nat.le_refl _), f9⟩
set_option maxRecDepth 100000 in
set_option maxHeartbeats 4000000 in
theorem done_get (w : World) (b c : Nat) (v u : Value) (R : IPs) (room id x : Int) (oth all : Bool) (h : PT b c v u R room w) (hi : U32 id) :
    Calls Tryd.prog 21 #[.pointer (some ⟨b, 0, none⟩), .pointer (some ⟨c, 0, none⟩), .agg #[.int .i64 1, .bool oth, .int .u32 id, .int .i64 x, .bool all]] w (DonePost w b c v u R room) := by
  have hb1 := Blk.new w #[.int .i64 1, .bool oth, .int .u32 id, .int .i64 x, .bool all] 55
  have f01 : Fr [] w (w.alloc (.cells #[.int .i64 1, .bool oth, .int .u32 id, .int .i64 x, .bool all] 55)) := (Fr.refl [] w).alloc _
  have d0 := hb1.at 0 (v := .int .i64 1) rfl
  have d2 := hb1.at 2 (v := .int .u32 id) rfl
  have d3 := hb1.at 3 (v := .int .i64 x) rfl
  have d4 := hb1.at 4 (v := .bool all) rfl
  have HH := Lib.hid (And.intro h (And.intro f01 (And.intro hb1 hi)))
  clear f01 h hi hb1
  go_enter Tryd.func21, Tryd.ntmps21
  go_wp2_with fail
  obtain ⟨h, f01, hb1, hi⟩ := HH.out
  clear HH d0 d2 d3 d4
  obtain ⟨w1, hw1⟩ : ∃ w1, w.alloc (.cells #[.int .i64 1, .bool oth, .int .u32 id, .int .i64 x, .bool all] 55) = w1 := ⟨_, rfl⟩
  obtain ⟨bx, hbx⟩ : ∃ bx, bx = w.heap.size := ⟨_, rfl⟩
  rw [← hbx] at hb1 ⊢
  rw [hw1] at hb1 f01 ⊢
  have hP := h.grow f01
  have HP := Lib.hid (And.intro hP (And.intro f01 (And.intro hb1 hbx)))
  have HI := Lib.hid hi
  clear hP f01 h hi hw1 hbx
  (with_reducible refine (tget_any w1 b v R room id HP.out.1.tab HI.out HP.out.1.ref.up).mono ?_)
  rintro e w2 ⟨rfl, f2⟩
  have ht := HP.out.1.tab.grow f2
  have db := f2.blk hb1 (by simp)
  have m2 := (db.alloc (.cells #[.int .i64 (getA R id).1, .string (sv (getA R id).1)] 29)).at 2 (v := .int .u32 id) rfl
  have m4 := (db.alloc (.cells #[.int .i64 (getA R id).1, .string (sv (getA R id).1)] 29)).at 4 (v := .bool all) rfl
  have db2 := db.alloc (.cells #[.int .i64 (getA R id).1, .string (sv (getA R id).1)] 29)
  have kb := Blk.new w2 #[.int .i64 (getA R id).1, .string (sv (getA R id).1)] 29
  have fa : Fr [] w2 (w2.alloc (.cells #[.int .i64 (getA R id).1, .string (sv (getA R id).1)] 29)) := (Fr.refl _ _).alloc _
  have hr2 := HP.out.1.ref.grow f2
  have HQ := Lib.hid (And.intro f2 (And.intro ht (And.intro trivial (And.intro db2 (And.intro kb (And.intro fa hr2))))))
  clear db hr2 f2 ht fa kb db2
  simp only [vV]
  go_wp2_with fail
  clear m2 m4
  obtain ⟨f2, ht, hg, db2, kb, fa, hr2⟩ := HQ.out
  clear HQ
  obtain ⟨w3, hw3⟩ : ∃ w3, w2.alloc (.cells #[.int .i64 (getA R id).1, .string (sv (getA R id).1)] 29) = w3 := ⟨_, rfl⟩
  obtain ⟨k, hk⟩ : ∃ k, k = w2.heap.size := ⟨_, rfl⟩
  rw [← hk] at kb ⊢
  rw [hw3] at db2 kb fa ⊢
  have ht3 := ht.grow fa
  have hr3 := hr2.grow fa
  have HQ := Lib.hid (And.intro f2 (And.intro ht3 (And.intro hg (And.intro db2 (And.intro kb (And.intro fa hr3))))))
  have HT := Lib.hid (rget_any w3 c u R room id hr3 HI.out)
  clear f2 ht ht3 hg db2 kb fa hr2 hr3 hw3 hk
  (with_reducible refine (HT.out).mono ?_)
  rintro e W2 ⟨rfl, f4⟩
  have kb2 := f4.blk HQ.out.2.2.2.2.1 (by simp)
  have hu := HQ.out.2.2.2.2.2.2.grow f4
  have ht4 := HQ.out.2.1.grow f4
  go_wp2_with fail
  refine region_grow (by kernel_rfl) (by kernel_rfl) [.is (vV (getA R id).1), .is (.int .i64 (getA R id).1), .is (vV (getA R id).1), .is (.bool true), .is (.bool true), .is (.bool (getA R id).2), .is (.bool (getA R id).2), .is (.bool true), .is (.bool true), .is (.bool true)] 188 rfl (by kernel_rfl) [(0, 74), (1, 75), (2, 76), (3, 77), (4, 78), (5, 79), (6, 80), (7, 81), (8, 82), (9, 6)] (by kernel_rfl) ?_ ?_
  · intro q a1 W1 i hi hnq hd hG K hK
    have hlt : i < 10 := hi
    have hc : i = 0 ∨ i = 1 ∨ i = 2 ∨ i = 3 ∨ i = 4 ∨ i = 5 ∨ i = 6 ∨ i = 7 ∨ i = 8 ∨ i = 9 := by omega
    rcases hc with rfl | rfl | rfl | rfl | rfl | rfl | rfl | rfl | rfl | rfl
    · have e11 := hG.old 11 (by kernel_rfl)
      have kc0 := (hG.grown.cell (a := ⟨k, 0, none⟩) kb2.lt (by simp)).trans (kb2.at 0 rfl)
      have kc1 := (hG.grown.cell (a := ⟨k, 1, none⟩) kb2.lt (by simp)).trans (kb2.at 1 rfl)
      refine op_do rfl (wanted_none rfl) hK (fun K' hK' => ?_)
      unfold Oper.wp
      go_simp
      exact hK' _ _ (Fr.refl _ _) rfl
    · have e13 := hG.old 13 (by kernel_rfl)
      refine op_do rfl (wanted_none rfl) hK (fun K' hK' => ?_)
      unfold Oper.wp
      go_simp
      exact hK' _ _ (Fr.refl _ _) rfl
    · have e75 := hG.val (v := .int .i64 (getA R id).1) 1 75 (hd _ rfl ⟨1, .data⟩ (by simp) rfl) rfl rfl
      refine op_do rfl (wanted_none rfl) hK (fun K' hK' => ?_)
      unfold Oper.wp
      go_simp
      refine (of_any W1 (getA R id).1).mono ?_
      rintro e W2 ⟨rfl, f⟩
      exact hK' _ _ f rfl
    · have e74 := hG.val (v := vV (getA R id).1) 0 74 (hd _ rfl ⟨0, .data⟩ (by simp) rfl) rfl rfl
      have e76 := hG.val (v := vV (getA R id).1) 2 76 (hd _ rfl ⟨2, .data⟩ (by simp) rfl) rfl rfl
      simp only [vV] at e74 e76
      refine op_do rfl (wanted_none rfl) hK (fun K' hK' => ?_)
      unfold Oper.wp
      go_simp
      exact hK' _ _ (Fr.refl _ _) rfl
    · have e77 := hG.val (v := .bool true) 3 77 (hd _ rfl ⟨3, .data⟩ (by simp) rfl) rfl rfl
      refine op_do rfl (wanted_none rfl) hK (fun K' hK' => ?_)
      unfold Oper.wp
      go_simp
      exact hK' _ _ (Fr.refl _ _) rfl
    · have e12 := hG.old 12 (by kernel_rfl)
      have eg := hG.val (v := .bool true) 4 78 (hd _ rfl ⟨4, .guard⟩ (by simp) rfl) rfl rfl
      refine op_do rfl (by simp [Region.wanted, yielded, eg]) hK (fun K' hK' => ?_)
      unfold Oper.wp
      go_simp
      exact hK' _ _ (Fr.refl _ _) rfl
    · have e14 := hG.old 14 (by kernel_rfl)
      have eg := hG.val (v := .bool true) 4 78 (hd _ rfl ⟨4, .guard⟩ (by simp) rfl) rfl rfl
      refine op_do rfl (by simp [Region.wanted, yielded, eg]) hK (fun K' hK' => ?_)
      unfold Oper.wp
      go_simp
      exact hK' _ _ (Fr.refl _ _) rfl
    · have e79 := hG.val (v := .bool (getA R id).2) 5 79 (hd _ rfl ⟨5, .data⟩ (by simp) rfl) rfl rfl
      have e80 := hG.val (v := .bool (getA R id).2) 6 80 (hd _ rfl ⟨6, .data⟩ (by simp) rfl) rfl rfl
      have eg := hG.val (v := .bool true) 4 78 (hd _ rfl ⟨4, .guard⟩ (by simp) rfl) rfl rfl
      refine op_do rfl (by simp [Region.wanted, yielded, eg]) hK (fun K' hK' => ?_)
      unfold Oper.wp
      go_simp
      exact hK' _ _ (Fr.refl _ _) rfl
    · have e78 := hG.val (v := .bool true) 4 78 (hd _ rfl ⟨4, .data⟩ (by simp) rfl) rfl rfl
      have e81 := hG.val (v := .bool true) 7 81 (hd _ rfl ⟨7, .data⟩ (by simp) rfl) rfl rfl
      refine op_do rfl (wanted_none rfl) hK (fun K' hK' => ?_)
      unfold Oper.wp
      go_simp
      exact hK' _ _ (Fr.refl _ _) rfl
    · have e82 := hG.val (v := .bool true) 8 82 (hd _ rfl ⟨8, .data⟩ (by simp) rfl) rfl rfl
      refine op_do rfl (wanted_none rfl) hK (fun K' hK' => ?_)
      unfold Oper.wp
      go_simp
      exact hK' _ _ (Fr.refl _ _) rfl
  · intro vs W1 f1 hv
    have r0 : vs 0 = vV (getA R id).1 := hv 0 74 (by decide) rfl
    have r1 : vs 1 = .int .i64 (getA R id).1 := hv 1 75 (by decide) rfl
    have r2 : vs 2 = vV (getA R id).1 := hv 2 76 (by decide) rfl
    have r3 : vs 3 = .bool true := hv 3 77 (by decide) rfl
    have r4 : vs 4 = .bool true := hv 4 78 (by decide) rfl
    have r5 : vs 5 = .bool (getA R id).2 := hv 5 79 (by decide) rfl
    have r6 : vs 6 = .bool (getA R id).2 := hv 6 80 (by decide) rfl
    have r7 : vs 7 = .bool true := hv 7 81 (by decide) rfl
    have r8 : vs 8 = .bool true := hv 8 82 (by decide) rfl
    have r9 : vs 9 = .bool true := hv 9 6 (by decide) rfl
    simp only [lay, List.foldl_cons, List.foldl_nil, r0, r1, r2, r3, r4, r5, r6, r7, r8, r9]
    simp only [List.setIfInBounds_toArray, List.set_cons_zero, List.set_cons_succ]
    clear hv r0 r1 r2 r3 r4 r5 r6 r7 r8 r9
    go_wp2_with fail
    have f9 := (((((HP.out.2.1.mono (T := PS b c v u) (by simp)).trans (HQ.out.1.mono (T := PS b c v u) (fun y hy => by simp at hy)) (fun y hy => .inl hy)).trans (HQ.out.2.2.2.2.2.1.mono (T := PS b c v u) (by simp)) (fun y hy => .inl hy)).trans (f4.mono (T := PS b c v u) (fun y hy => by simp at hy)) (fun y hy => .inl hy)).trans (f1.mono (T := PS b c v u) (by simp)) (fun y hy => .inl hy))
    refine bodyPost_ret (v := .bool true) (by simp [results, Tryd.results21, go_sem]) rfl ⟨rfl, v, u, ⟨ht4.grow f1, hu.grow f1, HP.out.1.rm⟩, ps_of (fun g hg => .inl hg) (fun g hg => .inl hg) (Nat.le_refl _), f9⟩
set_option maxRecDepth 100000 in
set_option maxHeartbeats 4000000 in
theorem done_del (w : World) (b c : Nat) (v u : Value) (R : IPs) (room id x : Int) (oth all : Bool) (h : PT b c v u R room w) (hi : U32 id) :
    Calls Tryd.prog 21 #[.pointer (some ⟨b, 0, none⟩), .pointer (some ⟨c, 0, none⟩), .agg #[.int .i64 2, .bool oth, .int .u32 id, .int .i64 x, .bool all]] w (DonePost w b c v u (delR R id) room) := by
  have hb1 := Blk.new w #[.int .i64 2, .bool oth, .int .u32 id, .int .i64 x, .bool all] 55
  have f01 : Fr [] w (w.alloc (.cells #[.int .i64 2, .bool oth, .int .u32 id, .int .i64 x, .bool all] 55)) := (Fr.refl [] w).alloc _
  have d0 := hb1.at 0 (v := .int .i64 2) rfl
  have d2 := hb1.at 2 (v := .int .u32 id) rfl
  have d3 := hb1.at 3 (v := .int .i64 x) rfl
  have d4 := hb1.at 4 (v := .bool all) rfl
  have HH := Lib.hid (And.intro h (And.intro f01 (And.intro hb1 hi)))
  clear f01 h hi hb1
  go_enter Tryd.func21, Tryd.ntmps21
  go_wp2_with fail
  obtain ⟨h, f01, hb1, hi⟩ := HH.out
  clear HH d0 d2 d3 d4
  obtain ⟨w1, hw1⟩ : ∃ w1, w.alloc (.cells #[.int .i64 2, .bool oth, .int .u32 id, .int .i64 x, .bool all] 55) = w1 := ⟨_, rfl⟩
  obtain ⟨bx, hbx⟩ : ∃ bx, bx = w.heap.size := ⟨_, rfl⟩
  rw [← hbx] at hb1 ⊢
  rw [hw1] at hb1 f01 ⊢
  have hP := h.grow f01
  have HP := Lib.hid (And.intro hP (And.intro f01 (And.intro hb1 hbx)))
  have HI := Lib.hid hi
  clear hP f01 h hi hw1 hbx
  (with_reducible refine (tdel_any w1 b v R room id HP.out.1.tab HI.out HP.out.1.ref.up).mono ?_)
  rintro e w2 ⟨rfl, v', ht, hg, f2⟩
  have db := f2.blk hb1 (notin_tab HP.out.1.tab hb1 (by decide) (by decide))
  have m2 := (db.alloc (.cells #[.int .i64 (getA R id).1, .string (sv (getA R id).1)] 29)).at 2 (v := .int .u32 id) rfl
  have m4 := (db.alloc (.cells #[.int .i64 (getA R id).1, .string (sv (getA R id).1)] 29)).at 4 (v := .bool all) rfl
  have db2 := db.alloc (.cells #[.int .i64 (getA R id).1, .string (sv (getA R id).1)] 29)
  have kb := Blk.new w2 #[.int .i64 (getA R id).1, .string (sv (getA R id).1)] 29
  have fa : Fr [] w2 (w2.alloc (.cells #[.int .i64 (getA R id).1, .string (sv (getA R id).1)] 29)) := (Fr.refl _ _).alloc _
  have hr2 := HP.out.1.ref.beside HP.out.1.tab f2
  have HQ := Lib.hid (And.intro f2 (And.intro ht (And.intro hg (And.intro db2 (And.intro kb (And.intro fa hr2))))))
  clear db hr2 f2 ht fa kb db2 hg
  simp only [vV]
  go_wp2_with fail
  clear m2 m4
  obtain ⟨f2, ht, hg, db2, kb, fa, hr2⟩ := HQ.out
  clear HQ
  obtain ⟨w3, hw3⟩ : ∃ w3, w2.alloc (.cells #[.int .i64 (getA R id).1, .string (sv (getA R id).1)] 29) = w3 := ⟨_, rfl⟩
  obtain ⟨k, hk⟩ : ∃ k, k = w2.heap.size := ⟨_, rfl⟩
  rw [← hk] at kb ⊢
  rw [hw3] at db2 kb fa ⊢
  have ht3 := ht.grow fa
  have hr3 := hr2.grow fa
  have HQ := Lib.hid (And.intro f2 (And.intro ht3 (And.intro hg (And.intro db2 (And.intro kb (And.intro fa hr3))))))
  have HT := Lib.hid (rdel_any w3 c u R room id hr3 HI.out)
  clear f2 ht ht3 hg db2 kb fa hr2 hr3 hw3 hk
  (with_reducible refine (HT.out).mono ?_)
  rintro e W2 ⟨rfl, u', hu, hug, f4⟩
  have kb2 := f4.blk HQ.out.2.2.2.2.1 (notin_ref HQ.out.2.2.2.2.2.2 HQ.out.2.2.2.2.1 (by decide) (by decide))
  have ht4 := HQ.out.2.1.beside HQ.out.2.2.2.2.2.2 f4
  go_wp2_with fail
  refine region_grow (by kernel_rfl) (by kernel_rfl) [.is (vV (getA R id).1), .is (.int .i64 (getA R id).1), .is (vV (getA R id).1), .is (.bool true), .is (.bool true), .is (.bool (getA R id).2), .is (.bool (getA R id).2), .is (.bool true), .is (.bool true), .is (.bool true)] 188 rfl (by kernel_rfl) [(0, 99), (1, 100), (2, 101), (3, 102), (4, 103), (5, 104), (6, 105), (7, 106), (8, 107), (9, 6)] (by kernel_rfl) ?_ ?_
  · intro q a1 W1 i hi hnq hd hG K hK
    have hlt : i < 10 := hi
    have hc : i = 0 ∨ i = 1 ∨ i = 2 ∨ i = 3 ∨ i = 4 ∨ i = 5 ∨ i = 6 ∨ i = 7 ∨ i = 8 ∨ i = 9 := by omega
    rcases hc with rfl | rfl | rfl | rfl | rfl | rfl | rfl | rfl | rfl | rfl
    · have e15 := hG.old 15 (by kernel_rfl)
      have kc0 := (hG.grown.cell (a := ⟨k, 0, none⟩) kb2.lt (by simp)).trans (kb2.at 0 rfl)
      have kc1 := (hG.grown.cell (a := ⟨k, 1, none⟩) kb2.lt (by simp)).trans (kb2.at 1 rfl)
      refine op_do rfl (wanted_none rfl) hK (fun K' hK' => ?_)
      unfold Oper.wp
      go_simp
      exact hK' _ _ (Fr.refl _ _) rfl
    · have e17 := hG.old 17 (by kernel_rfl)
      refine op_do rfl (wanted_none rfl) hK (fun K' hK' => ?_)
      unfold Oper.wp
      go_simp
      exact hK' _ _ (Fr.refl _ _) rfl
    · have e100 := hG.val (v := .int .i64 (getA R id).1) 1 100 (hd _ rfl ⟨1, .data⟩ (by simp) rfl) rfl rfl
      refine op_do rfl (wanted_none rfl) hK (fun K' hK' => ?_)
      unfold Oper.wp
      go_simp
      refine (of_any W1 (getA R id).1).mono ?_
      rintro e W2 ⟨rfl, f⟩
      exact hK' _ _ f rfl
    · have e99 := hG.val (v := vV (getA R id).1) 0 99 (hd _ rfl ⟨0, .data⟩ (by simp) rfl) rfl rfl
      have e101 := hG.val (v := vV (getA R id).1) 2 101 (hd _ rfl ⟨2, .data⟩ (by simp) rfl) rfl rfl
      simp only [vV] at e99 e101
      refine op_do rfl (wanted_none rfl) hK (fun K' hK' => ?_)
      unfold Oper.wp
      go_simp
      exact hK' _ _ (Fr.refl _ _) rfl
    · have e102 := hG.val (v := .bool true) 3 102 (hd _ rfl ⟨3, .data⟩ (by simp) rfl) rfl rfl
      refine op_do rfl (wanted_none rfl) hK (fun K' hK' => ?_)
      unfold Oper.wp
      go_simp
      exact hK' _ _ (Fr.refl _ _) rfl
    · have e16 := hG.old 16 (by kernel_rfl)
      have eg := hG.val (v := .bool true) 4 103 (hd _ rfl ⟨4, .guard⟩ (by simp) rfl) rfl rfl
      refine op_do rfl (by simp [Region.wanted, yielded, eg]) hK (fun K' hK' => ?_)
      unfold Oper.wp
      go_simp
      exact hK' _ _ (Fr.refl _ _) rfl
    · have e18 := hG.old 18 (by kernel_rfl)
      have eg := hG.val (v := .bool true) 4 103 (hd _ rfl ⟨4, .guard⟩ (by simp) rfl) rfl rfl
      refine op_do rfl (by simp [Region.wanted, yielded, eg]) hK (fun K' hK' => ?_)
      unfold Oper.wp
      go_simp
      exact hK' _ _ (Fr.refl _ _) rfl
    · have e104 := hG.val (v := .bool (getA R id).2) 5 104 (hd _ rfl ⟨5, .data⟩ (by simp) rfl) rfl rfl
      have e105 := hG.val (v := .bool (getA R id).2) 6 105 (hd _ rfl ⟨6, .data⟩ (by simp) rfl) rfl rfl
      have eg := hG.val (v := .bool true) 4 103 (hd _ rfl ⟨4, .guard⟩ (by simp) rfl) rfl rfl
      refine op_do rfl (by simp [Region.wanted, yielded, eg]) hK (fun K' hK' => ?_)
      unfold Oper.wp
      go_simp
      exact hK' _ _ (Fr.refl _ _) rfl
    · have e103 := hG.val (v := .bool true) 4 103 (hd _ rfl ⟨4, .data⟩ (by simp) rfl) rfl rfl
      have e106 := hG.val (v := .bool true) 7 106 (hd _ rfl ⟨7, .data⟩ (by simp) rfl) rfl rfl
      refine op_do rfl (wanted_none rfl) hK (fun K' hK' => ?_)
      unfold Oper.wp
      go_simp
      exact hK' _ _ (Fr.refl _ _) rfl
    · have e107 := hG.val (v := .bool true) 8 107 (hd _ rfl ⟨8, .data⟩ (by simp) rfl) rfl rfl
      refine op_do rfl (wanted_none rfl) hK (fun K' hK' => ?_)
      unfold Oper.wp
      go_simp
      exact hK' _ _ (Fr.refl _ _) rfl
  · intro vs W1 f1 hv
    have r0 : vs 0 = vV (getA R id).1 := hv 0 99 (by decide) rfl
    have r1 : vs 1 = .int .i64 (getA R id).1 := hv 1 100 (by decide) rfl
    have r2 : vs 2 = vV (getA R id).1 := hv 2 101 (by decide) rfl
    have r3 : vs 3 = .bool true := hv 3 102 (by decide) rfl
    have r4 : vs 4 = .bool true := hv 4 103 (by decide) rfl
    have r5 : vs 5 = .bool (getA R id).2 := hv 5 104 (by decide) rfl
    have r6 : vs 6 = .bool (getA R id).2 := hv 6 105 (by decide) rfl
    have r7 : vs 7 = .bool true := hv 7 106 (by decide) rfl
    have r8 : vs 8 = .bool true := hv 8 107 (by decide) rfl
    have r9 : vs 9 = .bool true := hv 9 6 (by decide) rfl
    simp only [lay, List.foldl_cons, List.foldl_nil, r0, r1, r2, r3, r4, r5, r6, r7, r8, r9]
    simp only [List.setIfInBounds_toArray, List.set_cons_zero, List.set_cons_succ]
    clear hv r0 r1 r2 r3 r4 r5 r6 r7 r8 r9
    go_wp2_with fail
    have f9 := (((((HP.out.2.1.mono (T := PS b c v u) (by simp)).trans (HQ.out.1.mono (T := PS b c v u) (fun y hy => .inl (ps_tab b c v u y hy))) (fun y hy => .inl hy)).trans (HQ.out.2.2.2.2.2.1.mono (T := PS b c v u) (by simp)) (fun y hy => .inl hy)).trans (f4.mono (T := PS b c v u) (fun y hy => .inl (ps_ref b c v u y hy))) (fun y hy => .inl hy)).trans (f1.mono (T := PS b c v u) (by simp)) (fun y hy => .inl hy))
    refine bodyPost_ret (v := .bool true) (by simp [results, Tryd.results21, go_sem]) rfl ⟨rfl, v', u', ⟨ht4.grow f1, hu.grow f1, HP.out.1.rm⟩, ps_of (fun g hg => (HQ.out.2.2.1 g hg).imp (fun h => h) (fun h => Nat.le_trans HP.out.2.1.size h)) (fun g hg => (hug g hg).imp (fun h => h) (fun h => Nat.le_trans HP.out.2.1.size (Nat.le_trans HQ.out.1.size (Nat.le_trans HQ.out.2.2.2.2.2.1.size h)))) (Nat.le_refl _), f9⟩
set_option maxRecDepth 100000 in
set_option maxHeartbeats 4000000 in
theorem done_next (w : World) (b c : Nat) (v u : Value) (R : IPs) (room id x : Int) (oth all : Bool) (h : PT b c v u R room w) (hi : U32 id) :
    Calls Tryd.prog 21 #[.pointer (some ⟨b, 0, none⟩), .pointer (some ⟨c, 0, none⟩), .agg #[.int .i64 3, .bool oth, .int .u32 id, .int .i64 x, .bool all]] w (DonePost w b c v u R room) := by
  have hb1 := Blk.new w #[.int .i64 3, .bool oth, .int .u32 id, .int .i64 x, .bool all] 55
  have f01 : Fr [] w (w.alloc (.cells #[.int .i64 3, .bool oth, .int .u32 id, .int .i64 x, .bool all] 55)) := (Fr.refl [] w).alloc _
  have d0 := hb1.at 0 (v := .int .i64 3) rfl
  have d2 := hb1.at 2 (v := .int .u32 id) rfl
  have d3 := hb1.at 3 (v := .int .i64 x) rfl
  have d4 := hb1.at 4 (v := .bool all) rfl
  have HH := Lib.hid (And.intro h (And.intro f01 (And.intro hb1 hi)))
  clear f01 h hi hb1
  go_enter Tryd.func21, Tryd.ntmps21
  go_wp2_with fail
  obtain ⟨h, f01, hb1, hi⟩ := HH.out
  clear HH d0 d2 d3 d4
  obtain ⟨w1, hw1⟩ : ∃ w1, w.alloc (.cells #[.int .i64 3, .bool oth, .int .u32 id, .int .i64 x, .bool all] 55) = w1 := ⟨_, rfl⟩
  obtain ⟨bx, hbx⟩ : ∃ bx, bx = w.heap.size := ⟨_, rfl⟩
  rw [← hbx] at hb1 ⊢
  rw [hw1] at hb1 f01 ⊢
  have hP := h.grow f01
  have HP := Lib.hid (And.intro hP (And.intro f01 (And.intro hb1 hbx)))
  have HI := Lib.hid hi
  clear hP f01 h hi hw1 hbx
  (with_reducible refine (tnext_any w1 b v R room id all HP.out.1.tab HI.out HP.out.1.ref.up).mono ?_)
  rintro e w2 ⟨rfl, f2⟩
  have ht := HP.out.1.tab.grow f2
  have db := f2.blk hb1 (by simp)
  have m2 := (db.alloc (.cells #[.int .i64 (nextA R id all).2.1, .string (sv (nextA R id all).2.1)] 29)).at 2 (v := .int .u32 id) rfl
  have m4 := (db.alloc (.cells #[.int .i64 (nextA R id all).2.1, .string (sv (nextA R id all).2.1)] 29)).at 4 (v := .bool all) rfl
  have db2 := db.alloc (.cells #[.int .i64 (nextA R id all).2.1, .string (sv (nextA R id all).2.1)] 29)
  have kb := Blk.new w2 #[.int .i64 (nextA R id all).2.1, .string (sv (nextA R id all).2.1)] 29
  have fa : Fr [] w2 (w2.alloc (.cells #[.int .i64 (nextA R id all).2.1, .string (sv (nextA R id all).2.1)] 29)) := (Fr.refl _ _).alloc _
  have hr2 := HP.out.1.ref.grow f2
  have HQ := Lib.hid (And.intro f2 (And.intro ht (And.intro trivial (And.intro db2 (And.intro kb (And.intro fa hr2))))))
  clear db hr2 f2 ht fa kb db2
  simp only [vV]
  go_wp2_with fail
  clear m2 m4
  obtain ⟨f2, ht, hg, db2, kb, fa, hr2⟩ := HQ.out
  clear HQ
  obtain ⟨w3, hw3⟩ : ∃ w3, w2.alloc (.cells #[.int .i64 (nextA R id all).2.1, .string (sv (nextA R id all).2.1)] 29) = w3 := ⟨_, rfl⟩
  obtain ⟨k, hk⟩ : ∃ k, k = w2.heap.size := ⟨_, rfl⟩
  rw [← hk] at kb ⊢
  rw [hw3] at db2 kb fa ⊢
  have ht3 := ht.grow fa
  have hr3 := hr2.grow fa
  have HQ := Lib.hid (And.intro f2 (And.intro ht3 (And.intro hg (And.intro db2 (And.intro kb (And.intro fa hr3))))))
  have HT := Lib.hid (rnextA_any w3 c u R room id all hr3)
  clear f2 ht ht3 hg db2 kb fa hr2 hr3 hw3 hk
  (with_reducible refine (HT.out).mono ?_)
  rintro e W2 ⟨rfl, f4⟩
  have kb2 := f4.blk HQ.out.2.2.2.2.1 (by simp)
  have hu := HQ.out.2.2.2.2.2.2.grow f4
  have ht4 := HQ.out.2.1.grow f4
  go_wp2_with fail
  refine region_grow (by kernel_rfl) (by kernel_rfl) [.is (.int .u32 (nextA R id all).1), .is (.int .u32 (nextA R id all).1), .is (.bool true), .is (.bool true), .is (vV (nextA R id all).2.1), .is (.int .i64 (nextA R id all).2.1), .is (vV (nextA R id all).2.1), .is (.bool true), .is (.bool true), .is (.bool true), .is (.bool (nextA R id all).2.2), .is (.bool (nextA R id all).2.2), .is (.bool true), .is (.bool true), .is (.bool true)] 188 rfl (by kernel_rfl) [(0, 130), (1, 131), (2, 132), (3, 133), (4, 134), (5, 135), (6, 136), (7, 137), (8, 138), (9, 139), (10, 140), (11, 141), (12, 142), (13, 143), (14, 6)] (by kernel_rfl) ?_ ?_
  · intro q a1 W1 i hi hnq hd hG K hK
    have hlt : i < 15 := hi
    have hc : i = 0 ∨ i = 1 ∨ i = 2 ∨ i = 3 ∨ i = 4 ∨ i = 5 ∨ i = 6 ∨ i = 7 ∨ i = 8 ∨ i = 9 ∨ i = 10 ∨ i = 11 ∨ i = 12 ∨ i = 13 ∨ i = 14 := by omega
    rcases hc with rfl | rfl | rfl | rfl | rfl | rfl | rfl | rfl | rfl | rfl | rfl | rfl | rfl | rfl | rfl
    · have e19 := hG.old 19 (by kernel_rfl)
      refine op_do rfl (wanted_none rfl) hK (fun K' hK' => ?_)
      unfold Oper.wp
      go_simp
      exact hK' _ _ (Fr.refl _ _) rfl
    · have e22 := hG.old 22 (by kernel_rfl)
      refine op_do rfl (wanted_none rfl) hK (fun K' hK' => ?_)
      unfold Oper.wp
      go_simp
      exact hK' _ _ (Fr.refl _ _) rfl
    · have e130 := hG.val (v := .int .u32 (nextA R id all).1) 0 130 (hd _ rfl ⟨0, .data⟩ (by simp) rfl) rfl rfl
      have e131 := hG.val (v := .int .u32 (nextA R id all).1) 1 131 (hd _ rfl ⟨1, .data⟩ (by simp) rfl) rfl rfl
      refine op_do rfl (wanted_none rfl) hK (fun K' hK' => ?_)
      unfold Oper.wp
      go_simp
      exact hK' _ _ (Fr.refl _ _) rfl
    · have e132 := hG.val (v := .bool true) 2 132 (hd _ rfl ⟨2, .data⟩ (by simp) rfl) rfl rfl
      refine op_do rfl (wanted_none rfl) hK (fun K' hK' => ?_)
      unfold Oper.wp
      go_simp
      exact hK' _ _ (Fr.refl _ _) rfl
    · have e20 := hG.old 20 (by kernel_rfl)
      have eg := hG.val (v := .bool true) 3 133 (hd _ rfl ⟨3, .guard⟩ (by simp) rfl) rfl rfl
      have kc0 := (hG.grown.cell (a := ⟨k, 0, none⟩) kb2.lt (by simp)).trans (kb2.at 0 rfl)
      have kc1 := (hG.grown.cell (a := ⟨k, 1, none⟩) kb2.lt (by simp)).trans (kb2.at 1 rfl)
      refine op_do rfl (by simp [Region.wanted, yielded, eg]) hK (fun K' hK' => ?_)
      unfold Oper.wp
      go_simp
      exact hK' _ _ (Fr.refl _ _) rfl
    · have e23 := hG.old 23 (by kernel_rfl)
      have eg := hG.val (v := .bool true) 3 133 (hd _ rfl ⟨3, .guard⟩ (by simp) rfl) rfl rfl
      refine op_do rfl (by simp [Region.wanted, yielded, eg]) hK (fun K' hK' => ?_)
      unfold Oper.wp
      go_simp
      exact hK' _ _ (Fr.refl _ _) rfl
    · have e135 := hG.val (v := .int .i64 (nextA R id all).2.1) 5 135 (hd _ rfl ⟨5, .data⟩ (by simp) rfl) rfl rfl
      have eg := hG.val (v := .bool true) 3 133 (hd _ rfl ⟨3, .guard⟩ (by simp) rfl) rfl rfl
      refine op_do rfl (by simp [Region.wanted, yielded, eg]) hK (fun K' hK' => ?_)
      unfold Oper.wp
      go_simp
      refine (of_any W1 (nextA R id all).2.1).mono ?_
      rintro e W2 ⟨rfl, f⟩
      exact hK' _ _ f rfl
    · have e134 := hG.val (v := vV (nextA R id all).2.1) 4 134 (hd _ rfl ⟨4, .data⟩ (by simp) rfl) rfl rfl
      have e136 := hG.val (v := vV (nextA R id all).2.1) 6 136 (hd _ rfl ⟨6, .data⟩ (by simp) rfl) rfl rfl
      have eg := hG.val (v := .bool true) 3 133 (hd _ rfl ⟨3, .guard⟩ (by simp) rfl) rfl rfl
      simp only [vV] at e134 e136
      refine op_do rfl (by simp [Region.wanted, yielded, eg]) hK (fun K' hK' => ?_)
      unfold Oper.wp
      go_simp
      exact hK' _ _ (Fr.refl _ _) rfl
    · have e133 := hG.val (v := .bool true) 3 133 (hd _ rfl ⟨3, .data⟩ (by simp) rfl) rfl rfl
      have e137 := hG.val (v := .bool true) 7 137 (hd _ rfl ⟨7, .data⟩ (by simp) rfl) rfl rfl
      refine op_do rfl (wanted_none rfl) hK (fun K' hK' => ?_)
      unfold Oper.wp
      go_simp
      exact hK' _ _ (Fr.refl _ _) rfl
    · have e138 := hG.val (v := .bool true) 8 138 (hd _ rfl ⟨8, .data⟩ (by simp) rfl) rfl rfl
      refine op_do rfl (wanted_none rfl) hK (fun K' hK' => ?_)
      unfold Oper.wp
      go_simp
      exact hK' _ _ (Fr.refl _ _) rfl
    · have e21 := hG.old 21 (by kernel_rfl)
      have eg := hG.val (v := .bool true) 9 139 (hd _ rfl ⟨9, .guard⟩ (by simp) rfl) rfl rfl
      refine op_do rfl (by simp [Region.wanted, yielded, eg]) hK (fun K' hK' => ?_)
      unfold Oper.wp
      go_simp
      exact hK' _ _ (Fr.refl _ _) rfl
    · have e24 := hG.old 24 (by kernel_rfl)
      have eg := hG.val (v := .bool true) 9 139 (hd _ rfl ⟨9, .guard⟩ (by simp) rfl) rfl rfl
      refine op_do rfl (by simp [Region.wanted, yielded, eg]) hK (fun K' hK' => ?_)
      unfold Oper.wp
      go_simp
      exact hK' _ _ (Fr.refl _ _) rfl
    · have e140 := hG.val (v := .bool (nextA R id all).2.2) 10 140 (hd _ rfl ⟨10, .data⟩ (by simp) rfl) rfl rfl
      have e141 := hG.val (v := .bool (nextA R id all).2.2) 11 141 (hd _ rfl ⟨11, .data⟩ (by simp) rfl) rfl rfl
      have eg := hG.val (v := .bool true) 9 139 (hd _ rfl ⟨9, .guard⟩ (by simp) rfl) rfl rfl
      refine op_do rfl (by simp [Region.wanted, yielded, eg]) hK (fun K' hK' => ?_)
      unfold Oper.wp
      go_simp
      exact hK' _ _ (Fr.refl _ _) rfl
    · have e139 := hG.val (v := .bool true) 9 139 (hd _ rfl ⟨9, .data⟩ (by simp) rfl) rfl rfl
      have e142 := hG.val (v := .bool true) 12 142 (hd _ rfl ⟨12, .data⟩ (by simp) rfl) rfl rfl
      refine op_do rfl (wanted_none rfl) hK (fun K' hK' => ?_)
      unfold Oper.wp
      go_simp
      exact hK' _ _ (Fr.refl _ _) rfl
    · have e143 := hG.val (v := .bool true) 13 143 (hd _ rfl ⟨13, .data⟩ (by simp) rfl) rfl rfl
      refine op_do rfl (wanted_none rfl) hK (fun K' hK' => ?_)
      unfold Oper.wp
      go_simp
      exact hK' _ _ (Fr.refl _ _) rfl
  · intro vs W1 f1 hv
    have r0 : vs 0 = .int .u32 (nextA R id all).1 := hv 0 130 (by decide) rfl
    have r1 : vs 1 = .int .u32 (nextA R id all).1 := hv 1 131 (by decide) rfl
    have r2 : vs 2 = .bool true := hv 2 132 (by decide) rfl
    have r3 : vs 3 = .bool true := hv 3 133 (by decide) rfl
    have r4 : vs 4 = vV (nextA R id all).2.1 := hv 4 134 (by decide) rfl
    have r5 : vs 5 = .int .i64 (nextA R id all).2.1 := hv 5 135 (by decide) rfl
    have r6 : vs 6 = vV (nextA R id all).2.1 := hv 6 136 (by decide) rfl
    have r7 : vs 7 = .bool true := hv 7 137 (by decide) rfl
    have r8 : vs 8 = .bool true := hv 8 138 (by decide) rfl
    have r9 : vs 9 = .bool true := hv 9 139 (by decide) rfl
    have r10 : vs 10 = .bool (nextA R id all).2.2 := hv 10 140 (by decide) rfl
    have r11 : vs 11 = .bool (nextA R id all).2.2 := hv 11 141 (by decide) rfl
    have r12 : vs 12 = .bool true := hv 12 142 (by decide) rfl
    have r13 : vs 13 = .bool true := hv 13 143 (by decide) rfl
    have r14 : vs 14 = .bool true := hv 14 6 (by decide) rfl
    simp only [lay, List.foldl_cons, List.foldl_nil, r0, r1, r2, r3, r4, r5, r6, r7, r8, r9, r10, r11, r12, r13, r14]
    simp only [List.setIfInBounds_toArray, List.set_cons_zero, List.set_cons_succ]
    clear hv r0 r1 r2 r3 r4 r5 r6 r7 r8 r9 r10 r11 r12 r13 r14
    go_wp2_with fail
    have f9 := (((((HP.out.2.1.mono (T := PS b c v u) (by simp)).trans (HQ.out.1.mono (T := PS b c v u) (fun y hy => by simp at hy)) (fun y hy => .inl hy)).trans (HQ.out.2.2.2.2.2.1.mono (T := PS b c v u) (by simp)) (fun y hy => .inl hy)).trans (f4.mono (T := PS b c v u) (fun y hy => by simp at hy)) (fun y hy => .inl hy)).trans (f1.mono (T := PS b c v u) (by simp)) (fun y hy => .inl hy))
    refine bodyPost_ret (v := .bool true) (by simp [results, Tryd.results21, go_sem]) rfl ⟨rfl, v, u, ⟨ht4.grow f1, hu.grow f1, HP.out.1.rm⟩, ps_of (fun g hg => .inl hg) (fun g hg => .inl hg) (Nat.le_refl _), f9⟩
end Go.Proofs.YtgoolkgjcmdilaaDoor
