/-
  Sets: All, and what it tells.
-/
import Derived.Test.YtgoolkgjcmdilaaDoorBiG
import Derived.Test.YtgoolkgjcmdilaaDoorRegT
import Derived.Test.YtgoolkgjcmdilaaDoorPaiA
namespace Go.Proofs.YtgoolkgjcmdilaaDoor
open Go.RowKit
set_option linter.unusedVariables false
set_option linter.unusedSimpArgs false
attribute [local go_sem] Oper.semAt_some

theorem eqlNil88 (a : Addr) (n c : Nat) (w : World) : (binOp .eql 88 (.slice (some a) n c) (.slice none 0 0)).run Tryd.prog w = .ok (.bool false) w := by
  exact Lib.run_eql_slice_nil _ _ _ _ _ _ _ _ Tryd.underlying88
attribute [local go_sem] eqlNil88
set_option maxRecDepth 100000 in
theorem clone64_any (w : World) (g m cap : Nat) (ws : List Nat) (hm : m = ws.length) (hl : m ≤ 1024) (h : w.ownsRow 0 96 1 (.slice (some ⟨g, 0, none⟩) m cap) m (wds ws)) :
    Calls Tryd.prog 77 #[.slice (some ⟨g, 0, none⟩) m cap] w fun e w' => (∃ v', e = .returned v' ∧ w'.ownsRow 0 96 1 v' m (wds ws) ∧ ∃ g', v'.ownBlock = some g' ∧ w.heap.size ≤ g') ∧ Fr [] w w' := by
  have F0 : Fr [] w (w.alloc (.cells #[] 96)) := (Fr.refl _ _).alloc _
  have hO := World.ownsRow_made (base := 0) (e := 96) (size := 1) w #[] 0 (Nat.zero_le _) (Nat.zero_le _) rfl
  have hsrc := (own_fr h F0 (by simp)).cells (g := g) rfl
  have hone : ∀ u, u ∈ wds ws → u.oneCell' = true := by
    intro u hu
    simp only [wds, List.mem_map] at hu
    obtain ⟨x, -, rfl⟩ := hu
    rfl
  have hlen : (wds ws).length = m * 1 := by simp [wds, hm]
  have HS := Lib.hid (And.intro F0 (And.intro hO (And.intro hsrc (And.intro hone hlen))))
  clear h F0 hO hsrc hone hlen hm
  go_enter Tryd.func77, Tryd.ntmps77
  go_wp2_with (at_builtin; go_must (refine wpList_app _ rfl _ _ 88 rfl 96 (.int .u64 0) 1 8 Tryd.underlying88 winfo rfl (by decide) (.slice (some ⟨w.heap.size, 0, none⟩) 0 0) 0 [] rfl HS.out.2.1 ⟨g, 0, none⟩ m cap (wds ws) rfl HS.out.2.2.2.2 HS.out.2.2.1 HS.out.2.2.2.1 (by unfold maxLen; omega) (by omega) ?_); intro v1 w3 happ; have HAP := Lib.hid happ; clear happ)
  all_goals
    go_ret
    refine ⟨⟨v1, rfl, by simpa using HAP.out.own, ?_⟩, HS.out.1.trans HAP.out.fr (fun x hx => .inr ?_)⟩
    · rcases HAP.out.place with q | q
      · exact ⟨_, q, Nat.le_refl _⟩
      · exact ⟨_, q, by simp⟩
    · simp [Value.ownBlock] at hx; omega
def Stab.crow (n0 m : Nat) (ws : List Nat) : Stab := ⟨fun v W => W.ownsRow 0 96 1 v m (wds ws) ∧ ∃ g, v.ownBlock = some g ∧ n0 ≤ g, fun u W W' f h => ⟨own_fr h.1 f (by simp), h.2⟩⟩
def Stab.cset (n0 n m : Nat) (ws : List Nat) : Stab := ⟨fun u W => ∃ v, u = .agg #[.int .i64 n, v] ∧ W.ownsRow 0 96 1 v m (wds ws) ∧ ∃ g, v.ownBlock = some g ∧ n0 ≤ g, fun u W W' f h => by
  obtain ⟨v, h1, h2, h3⟩ := h
  exact ⟨v, h1, own_fr h2 f (by simp), h3⟩⟩
def Stab.bset (n0 n m : Nat) (ws : List Nat) : Stab := ⟨fun u W => ∃ b v, u = .pointer (some ⟨b, 0, none⟩) ∧ n0 ≤ b ∧ Blk W b #[.int .i64 n, v] 90 ∧ W.ownsRow 0 96 1 v m (wds ws) ∧ ∃ g, v.ownBlock = some g ∧ n0 ≤ g, fun u W W' f h => by
  obtain ⟨b, v, h1, h2, h3, h4, h5⟩ := h
  exact ⟨b, v, h1, h2, f.blk h3 (by simp), own_fr h4 f (by simp), h5⟩⟩
def Stab.pvar (n0 : Nat) : Stab := ⟨fun u W => ∃ k, u = .pointer (some ⟨k, 0, none⟩) ∧ n0 ≤ k ∧ Blk W k #[.pointer none] 72, fun u W W' f h => by
  obtain ⟨k, h1, h2, h3⟩ := h
  exact ⟨k, h1, h2, f.blk h3 (by simp)⟩⟩
def AllBPost (w : World) (B : List Bool) (ws : List Nat) (e : Ending) (w' : World) : Prop :=
  ∃ k b2 v2, e = .returned (.func (.func 78) #[] #[.pointer (some ⟨k, 0, none⟩)]) ∧ Blk w' k #[.pointer (some ⟨b2, 0, none⟩)] 72 ∧ BitsAt w' b2 v2 B ws ∧ w.heap.size ≤ k ∧ w.heap.size ≤ b2 ∧ (∃ g, v2.ownBlock = some g ∧ w.heap.size ≤ g) ∧ Fr [] w w'
set_option maxRecDepth 100000 in
set_option maxHeartbeats 2000000 in
theorem allB_any (w : World) (b : Nat) (v : Value) (B : List Bool) (ws : List Nat) (h : BitsAt w b v B ws) : Calls Tryd.prog 27 #[.pointer (some ⟨b, 0, none⟩)] w (AllBPost w B ws) := by
  have HH := Lib.hid h
  have HL := Lib.hid (blive_any w b v B ws h)
  obtain ⟨g, cap, rfl, _⟩ := h.row
  have b0 := h.hd.at 0 (v := .int .i64 B.length) rfl
  have b1 := h.hd.at 1 (v := .slice (some ⟨g, 0, none⟩) ws.length cap) rfl
  have ho := h.own
  obtain ⟨n, hn⟩ : ∃ n, n = B.length := ⟨_, rfl⟩
  obtain ⟨m, hm⟩ : ∃ m, m = ws.length := ⟨_, rfl⟩
  have hm6 : m ≤ 1024 := by rw [hm, h.len]; have := h.lim; omega
  rw [← hn] at b0
  rw [← hm] at b1 ho
  have HN := Lib.hid (And.intro hn hm)
  have HZ := Lib.hid (And.intro b0 (And.intro b1 (And.intro hm (And.intro hm6 ho))))
  clear h b0 b1 ho hn hm hm6
  go_enter Tryd.func27, Tryd.ntmps27
  go_wp2_with fail
  (with_reducible refine (HL.out).mono ?_)
  rintro e w1 ⟨rfl, rfl⟩
  go_wp2_with fail
  refine region_tail (by kernel_rfl) (by kernel_rfl) [[], [0], [0, 1], [0, 1, 2], [], [4], [4, 5], [4, 5, 6], [4, 5, 6, 7], [0, 1, 2, 3, 4, 5, 6, 7, 8], [0, 1, 2, 3, 4, 5, 6, 7, 8, 9], [], [0, 1, 2, 3, 4, 5, 6, 7, 8, 9, 10, 11]] (by kernel_rfl) 12 (by decide) (by kernel_rfl) [.is (.pointer (some ⟨b, 0, none⟩)), .is (.pointer (some ⟨b, 0, none⟩)), .is (.pointer (some ⟨b, 0, none⟩)), .is (.int .i64 n), .is (.pointer (some ⟨b, 0, none⟩)), .is (.pointer (some ⟨b, 0, none⟩)), .is (.pointer (some ⟨b, 1, none⟩)), .is (.slice (some ⟨g, 0, none⟩) m cap), .crow w.heap.size m ws, .cset w.heap.size n m ws, .bset w.heap.size n m ws, .pvar w.heap.size] 19 rfl (by kernel_rfl) ?_ ?_
  · intro q a1 W1 i hi hnq hd hG K hK
    have hlt : i < 12 := hi
    have hc : i = 0 ∨ i = 1 ∨ i = 2 ∨ i = 3 ∨ i = 4 ∨ i = 5 ∨ i = 6 ∨ i = 7 ∨ i = 8 ∨ i = 9 ∨ i = 10 ∨ i = 11 := by omega
    rcases hc with rfl | rfl | rfl | rfl | rfl | rfl | rfl | rfl | rfl | rfl | rfl | rfl
    · have e0 := hG.old 0 (by kernel_rfl)
      refine op_do rfl (wanted_none rfl) hK (fun K' hK' => ?_)
      unfold Oper.wp
      go_simp
      exact hK' _ _ (Fr.refl _ _) rfl
    · have e7 := hG.val (v := .pointer (some ⟨b, 0, none⟩)) 0 7 (hd _ rfl ⟨0, .data⟩ (by simp) rfl) rfl rfl
      refine op_do rfl (wanted_none rfl) hK (fun K' hK' => ?_)
      unfold Oper.wp
      go_simp
      exact hK' _ _ (Fr.refl _ _) rfl
    · have e8 := hG.val (v := .pointer (some ⟨b, 0, none⟩)) 1 8 (hd _ rfl ⟨1, .data⟩ (by simp) rfl) rfl rfl
      refine op_do rfl (wanted_none rfl) hK (fun K' hK' => ?_)
      unfold Oper.wp
      go_simp
      exact hK' _ _ (Fr.refl _ _) rfl
    · have e9 := hG.val (v := .pointer (some ⟨b, 0, none⟩)) 2 9 (hd _ rfl ⟨2, .data⟩ (by simp) rfl) rfl rfl
      have z0 := (hG.grown.cell (a := ⟨b, 0, none⟩) HH.out.hd.lt (by simp)).trans HZ.out.1
      have z1 := (hG.grown.cell (a := ⟨b, 1, none⟩) HH.out.hd.lt (by simp)).trans HZ.out.2.1
      refine op_do rfl (wanted_none rfl) hK (fun K' hK' => ?_)
      unfold Oper.wp
      go_simp
      exact hK' _ _ (Fr.refl _ _) rfl
    · have e0 := hG.old 0 (by kernel_rfl)
      refine op_do rfl (wanted_none rfl) hK (fun K' hK' => ?_)
      unfold Oper.wp
      go_simp
      exact hK' _ _ (Fr.refl _ _) rfl
    · have e11 := hG.val (v := .pointer (some ⟨b, 0, none⟩)) 4 11 (hd _ rfl ⟨4, .data⟩ (by simp) rfl) rfl rfl
      refine op_do rfl (wanted_none rfl) hK (fun K' hK' => ?_)
      unfold Oper.wp
      go_simp
      exact hK' _ _ (Fr.refl _ _) rfl
    · have e12 := hG.val (v := .pointer (some ⟨b, 0, none⟩)) 5 12 (hd _ rfl ⟨5, .data⟩ (by simp) rfl) rfl rfl
      refine op_do rfl (wanted_none rfl) hK (fun K' hK' => ?_)
      unfold Oper.wp
      go_simp
      exact hK' _ _ (Fr.refl _ _) rfl
    · have e13 := hG.val (v := .pointer (some ⟨b, 1, none⟩)) 6 13 (hd _ rfl ⟨6, .data⟩ (by simp) rfl) rfl rfl
      have z0 := (hG.grown.cell (a := ⟨b, 0, none⟩) HH.out.hd.lt (by simp)).trans HZ.out.1
      have z1 := (hG.grown.cell (a := ⟨b, 1, none⟩) HH.out.hd.lt (by simp)).trans HZ.out.2.1
      refine op_do rfl (wanted_none rfl) hK (fun K' hK' => ?_)
      unfold Oper.wp
      go_simp
      exact hK' _ _ (Fr.refl _ _) rfl
    · have e14 := hG.val (v := .slice (some ⟨g, 0, none⟩) m cap) 7 14 (hd _ rfl ⟨7, .data⟩ (by simp) rfl) rfl rfl
      refine op_do rfl (wanted_none rfl) hK (fun K' hK' => ?_)
      unfold Oper.wp
      go_simp
      refine (clone64_any W1 g m cap ws HZ.out.2.2.1 HZ.out.2.2.2.1 (own_fr HZ.out.2.2.2.2 hG.grown (by simp))).mono ?_
      rintro e W2 ⟨⟨v', rfl, ho, g', hg', hge⟩, f⟩
      exact hK' _ _ f ⟨ho, g', hg', Nat.le_trans hG.grown.size hge⟩
    · have e10 := hG.val (v := .int .i64 n) 3 10 (hd _ rfl ⟨3, .data⟩ (by simp) rfl) rfl rfl
      obtain ⟨u8, e15, s8⟩ := hG.get 8 15 (hd _ rfl ⟨8, .data⟩ (by simp) rfl) rfl
      obtain ⟨cp, cc, rfl⟩ := own_form s8.1
      refine op_do rfl (wanted_none rfl) hK (fun K' hK' => ?_)
      unfold Oper.wp
      go_simp
      exact hK' _ _ (Fr.refl _ _) ⟨_, rfl, s8⟩
    · obtain ⟨u9, e16, s9⟩ := hG.get 9 16 (hd _ rfl ⟨9, .data⟩ (by simp) rfl) rfl
      obtain ⟨v9, rfl, k1, k2⟩ := s9
      obtain ⟨cp, cc, rfl⟩ := own_form k1
      refine op_do rfl (wanted_none rfl) hK (fun K' hK' => ?_)
      unfold Oper.wp
      go_simp
      exact hK' _ _ ((Fr.refl _ _).alloc _) ⟨W1.heap.size, .slice cp m cc, rfl, hG.grown.size, Blk.new W1 _ _, own_fr k1 ((Fr.refl [] W1).alloc _) (by simp), k2⟩
    · refine op_do rfl (wanted_none rfl) hK (fun K' hK' => ?_)
      unfold Oper.wp
      go_simp
      exact hK' _ _ ((Fr.refl _ _).alloc _) ⟨W1.heap.size, rfl, hG.grown.size, Blk.new W1 _ _⟩
  · intro q a1 W1 hq hG
    have f1 := hG.grown
    obtain ⟨vs, hv, rfl⟩ := hG.front 19 rfl (by kernel_rfl) (by decide) hq [(0, 7), (1, 8), (2, 9), (3, 10), (4, 11), (5, 12), (6, 13), (7, 14), (8, 15), (9, 16), (10, 17), (11, 3)] (by kernel_rfl)
    clear hG hq
    have r0 : vs 0 = .pointer (some ⟨b, 0, none⟩) := hv 0 7 (by decide) rfl
    have r1 : vs 1 = .pointer (some ⟨b, 0, none⟩) := hv 1 8 (by decide) rfl
    have r2 : vs 2 = .pointer (some ⟨b, 0, none⟩) := hv 2 9 (by decide) rfl
    have r3 : vs 3 = .int .i64 n := hv 3 10 (by decide) rfl
    have r4 : vs 4 = .pointer (some ⟨b, 0, none⟩) := hv 4 11 (by decide) rfl
    have r5 : vs 5 = .pointer (some ⟨b, 0, none⟩) := hv 5 12 (by decide) rfl
    have r6 : vs 6 = .pointer (some ⟨b, 1, none⟩) := hv 6 13 (by decide) rfl
    have r7 : vs 7 = .slice (some ⟨g, 0, none⟩) m cap := hv 7 14 (by decide) rfl
    have r8 := hv 8 15 (by decide) rfl
    have r9 := hv 9 16 (by decide) rfl
    have r10 := hv 10 17 (by decide) rfl
    have r11 := hv 11 3 (by decide) rfl
    simp only [List.drop_succ_cons, List.drop_zero, lay, List.foldl_cons, List.foldl_nil, r0, r1, r2, r3, r4, r5, r6, r7]
    simp only [List.setIfInBounds_toArray, List.set_cons_zero, List.set_cons_succ]
    clear hv r0 r1 r2 r3 r4 r5 r6 r7
    generalize vs 8 = x8 at *
    generalize vs 9 = x9 at *
    generalize vs 10 = x10 at *
    generalize vs 11 = x11 at *
    clear vs
    obtain ⟨b2, v2, rfl, q1, q2, q3, g', q4, q5⟩ := r10
    obtain ⟨k, rfl, p1, p2⟩ := r11
    have d0 := p2.at 0 (v := .pointer none) rfl
    have e0 := p2.free 0
    have HR := Lib.hid (And.intro f1 (And.intro q1 (And.intro q2 (And.intro q3 (And.intro q4 (And.intro q5 (And.intro p1 p2)))))))
    clear f1 q1 q2 q3 q4 q5 p1 p2 r8 r9
    go_wp2_with fail
    go_ret
    obtain ⟨f1, q1, q2, q3, q4, q5, p1, p2⟩ := HR.out
    have hkb : b2 ≠ k := fun e => by subst e; have := (q2.inj p2).2; cases this
    have hkg : g' ≠ k := fun e => by subst e; exact own_notin q3 p2 (by decide) (by simp [q4])
    have fk : Fr [k] W1 (W1.setCell ⟨k, 0, none⟩ (.pointer (some ⟨b2, 0, none⟩))) := (Fr.refl _ _).setCell _ _ (.inl (by simp))
    have hh := HH.out
    refine ⟨k, b2, v2, rfl, by simpa using p2.set 0 (.pointer (some ⟨b2, 0, none⟩)), ⟨?_, ?_, ?_, hh.len, hh.lt, hh.bits, hh.lim⟩, p1, q1, ⟨g', q4, q5⟩, f1.setCell _ _ (.inr p1)⟩
    · rw [← HN.out.1]; exact q2.other _ _ hkb
    · rw [← HN.out.2]; exact own_fr q3 fk (fun x hx hm => by rw [q4] at hx; cases hx; simp at hm; exact hkg hm)
    · rw [q4]; simp

/-- What an iterator over a set needs. -/
def BHeld (k b2 : Nat) (v2 : Value) (B : List Bool) (ws : List Nat) (W : World) : Prop := Blk W k #[.pointer (some ⟨b2, 0, none⟩)] 72 ∧ BitsAt W b2 v2 B ws ∧ DeB W
def bS (k b2 : Nat) (v2 : Value) : List Nat := 1 :: k :: b2 :: v2.ownBlock.toList
theorem BHeld.of {k b2 : Nat} {v2 : Value} {B : List Bool} {ws : List Nat} {W W' : World} (h : BHeld k b2 v2 B ws W) (f : ∀ j, j ∈ bS k b2 v2 → W'.heap[j]? = W.heap[j]?) : BHeld k b2 v2 B ws W' := by
  refine ⟨(f k (by simp [bS])).trans h.1, ⟨(f b2 (by simp [bS])).trans h.2.1.hd, ⟨h.2.1.own.1, ?_⟩, h.2.1.nn, h.2.1.len, h.2.1.lt, h.2.1.bits, h.2.1.lim⟩, fun i hi => (World.cell?_of_block (w := W) (f 1 (by simp [bS]))).trans (h.2.2 i hi)⟩
  rcases h.2.1.own.2 with hn | ⟨g, cap, cur, rfl, hb, hgg, rest⟩
  · exact .inl hn
  · exact .inr ⟨g, cap, cur, rfl, hb, (f g (by simp [bS, Value.ownBlock])).trans hgg, rest⟩
theorem BHeld.kpb {B0 k b2 : Nat} {v2 : Value} {B : List Bool} {ws : List Nat} {W W' : World} (h : BHeld k b2 v2 B ws W) (f : Kpb (bS k b2 v2) B0 W W') : BHeld k b2 v2 B ws W' := h.of f.1
theorem BHeld.lt {k b2 : Nat} {v2 : Value} {B : List Bool} {ws : List Nat} {W : World} (h : BHeld k b2 v2 B ws W) : ∀ j, j ∈ bS k b2 v2 → j < W.heap.size := by
  intro j hj
  simp only [bS, List.mem_cons, Option.mem_toList] at hj
  rcases hj with q | q | q | q
  · rw [q]; exact World.block_lt_of_cell? W _ (h.2.2 0 (by decide))
  · rw [q]; exact h.1.lt
  · rw [q]; exact h.2.1.hd.lt
  · exact own_lt h.2.1.own q
theorem BHeld.fr {k b2 : Nat} {v2 : Value} {B : List Bool} {ws : List Nat} {S : List Nat} {W W' : World} (h : BHeld k b2 v2 B ws W) (f : Fr S W W') (hs : ∀ j, j ∈ bS k b2 v2 → j ∉ S) : BHeld k b2 v2 B ws W' := h.of fun j hj => f.block j (h.lt j hj) (hs j hj)
theorem BHeld.set {k b2 : Nat} {v2 : Value} {B : List Bool} {ws : List Nat} {W : World} (h : BHeld k b2 v2 B ws W) : BitsAt W b2 v2 B ws := h.2.1
theorem BHeld.deb {k b2 : Nat} {v2 : Value} {B : List Bool} {ws : List Nat} {W : World} (h : BHeld k b2 v2 B ws W) : DeB W := h.2.2
theorem nth_lt {B : List Bool} {j x : Nat} (h : (onesN B B.length)[j]? = some x) : x < B.length := (onesN_mem.1 (List.mem_of_getElem? h)).1
def muI (N : Nat) (a : Int) : Nat := if a < 0 then 0 else N + 1 - a.toNat
theorem mu_next {B : List Bool} {j x : Nat} (h : (onesN B B.length)[j]? = some x) : muI B.length (nth B (j + 1)) < muI B.length (x : Int) := by
  have hxl := nth_lt h
  have e1 : muI B.length (x : Int) = B.length + 1 - x := by
    unfold muI
    rw [if_neg (by omega), Int.toNat_natCast]
  rw [e1]
  unfold nth
  cases hq : (onesN B B.length)[j + 1]? with
  | some y =>
    have h1 := onesN_lt (Nat.lt_succ_self j) h hq
    have h2 := nth_lt hq
    dsimp only
    unfold muI
    rw [if_neg (by omega), Int.toNat_natCast]
    omega
  | none =>
    dsimp only
    unfold muI
    rw [if_pos (by decide)]
    omega
set_option maxRecDepth 100000 in
set_option maxHeartbeats 2000000 in
theorem all2_tells (m k B0 b2 : Nat) (v2 : Value) (B : List Bool) (ws : List Nat) :
    Tells Fence.wide m Tryd.prog 78 #[.pointer (some ⟨k, 0, none⟩)] (fun (x : Int) => #[.int .i64 x]) [] (Kpb (bS k b2 v2) B0) (fun xs => xs = onesI B B.length) (fun pre => pre <+: onesI B B.length) (onesI B B.length).length (BHeld k b2 v2 B ws) (BHeld k b2 v2 B ws) := by
  intro l J Jx W hW hJ hJx hY h0
  refine callsIn_of_wp Tryd.func78 rfl trivial ?_ rfl
  simp only [Tryd.ntmps78, List.size_toArray, List.length_cons, List.length_nil, Nat.reduceAdd, Nat.reduceSub, Array.replicate_succ, Array.replicate_zero, List.push_toArray, List.append_toArray, List.nil_append, List.cons_append]
  refine wpIn_wide.2 ?_
  have HJ := Lib.hid hJ
  have HY := Lib.hid hY
  have c0 := hW.1.at 0 (v := .pointer (some ⟨b2, 0, none⟩)) rfl
  have HW := Lib.hid (And.intro hW h0)
  have hlim := hW.2.1.lim
  obtain ⟨N, hN⟩ : ∃ N, N = B.length := ⟨_, rfl⟩
  rw [← hN] at hlim
  have HN := Lib.hid hN
  clear hJ hJx hY hW h0 hN
  go_wp2_with fail
  (with_reducible refine (leastZ_any W b2 v2 B ws 0 HW.out.1.set HW.out.1.deb).mono ?_)
  rintro e w1 ⟨a, rfl, ha, rfl⟩
  obtain rfl := first_uniq ha (nth_first B)
  clear ha
  go_wp2_with fail
  go_loopw [3] (fun iv wr => ∃ j : Nat, iv = .int .i64 (nth B j) ∧ j ≤ (onesI B B.length).length ∧ BHeld k b2 v2 B ws wr ∧ W.heap.size ≤ wr.heap.size ∧ J ((onesI B B.length).take j) wr) (fun iv _ => muI N (intOf iv))
  case atStart => exact ⟨0, rfl, Nat.zero_le _, HW.out.1, Nat.le_refl _, HW.out.2⟩
  case round =>
    obtain ⟨j, rfl, hj, hA, hsz, hJj⟩ := hrel
    obtain ⟨wi, rfl⟩ : ∃ wi : World, wi = wr := ⟨_, rfl⟩
    cases hx : (onesN B B.length)[j]? with
    | some x =>
      have hnx : nth B j = (x : Int) := by unfold nth; rw [hx]
      have hxl := nth_lt hx
      rw [← HN.out] at hxl
      have hxI : (onesI B B.length)[j]? = some (x : Int) := by unfold onesI; rw [List.getElem?_map, hx]; rfl
      have hsn : (onesI B B.length).take j ++ [(x : Int)] = (onesI B B.length).take (j + 1) := by
        obtain ⟨h8, h9⟩ := List.getElem?_eq_some_iff.1 hxI
        rw [List.take_succ_eq_append_getElem h8, h9]
      have hjl := (List.getElem?_eq_some_iff.1 hxI).1
      obtain ⟨ff, tm, asg, body, hy, hR⟩ := HY.out _ (x : Int) _ hJj (by rw [List.length_take]; omega)
      rw [hsn] at hR
      have HR := Lib.hid hR
      have HA := Lib.hid (And.intro hA (And.intro hsz hx))
      rw [hnx]
      have k1 : ¬ (x : Int) < 0 := by omega
      have k2 : (0 : Int) ≤ (x : Int) := by omega
      clear hR hJj hsn hsz hxI hnx hx hj
      refine (wpIn_wide (n := m)).1 ?_
      gi_wp2
      refine ⟨fun h => by simp [Fence.wide] at h, HR.out.mono ?_⟩
      rintro e W3 ⟨hk3, (⟨rfl, hJ3⟩ | ⟨rfl, hJx3⟩)⟩
      · have hb3 := HA.out.1.kpb hk3
        have c3 := hb3.1.at 0 (v := .pointer (some ⟨b2, 0, none⟩)) rfl
        have HB := Lib.hid (And.intro hb3 (And.intro hk3 hJ3))
        clear hb3 hk3 hJ3 hA
        gi_wp2_with fail
        refine ⟨trivial, ?_⟩
        refine ⟨fun h => by simp [Fence.wide] at h, ?_⟩
        refine (callsIn_wide.2 (leastZ_any W3 b2 v2 B ws ((x : Int) + 1) HB.out.1.set HB.out.1.deb)).mono ?_
        rintro e W4 ⟨a, rfl, ha, rfl⟩
        rw [show ((x : Int) + 1).toNat = x + 1 by omega] at ha
        obtain rfl := first_uniq ha (nth_next HA.out.2.2)
        clear ha
        gi_wp2_with fail
        refine ⟨⟨j + 1, rfl, by omega, HB.out.1, Nat.le_trans HA.out.2.1 HB.out.2.1.2.size, HB.out.2.2⟩, ?_⟩
        show muI N (nth B (j + 1)) < muI N (x : Int)
        rw [HN.out]
        exact mu_next HA.out.2.2
      · gi_wp2
        refine bodyPost_ret (results_none rfl _ _ _) rfl ⟨⟨_, rfl⟩, HA.out.1.kpb hk3, .inr ⟨_, List.take_prefix _ _, hJx3⟩⟩
    | none =>
      have hnx : nth B j = -1 := by unfold nth; rw [hx]
      have hge : (onesI B B.length).length ≤ j := by
        unfold onesI
        rw [List.length_map]
        exact List.getElem?_eq_none_iff.1 hx
      have hJ' : J (onesI B B.length) wi := by rw [List.take_of_length_le hge] at hJj; exact hJj
      have HE := Lib.hid (And.intro hA hJ')
      rw [hnx]
      clear hJj hA hx hnx hge hJ' hj
      go_wp2
      go_end0
      exact ⟨⟨_, rfl⟩, HE.out.1, .inl ⟨_, rfl, HE.out.2⟩⟩
end Go.Proofs.YtgoolkgjcmdilaaDoor
