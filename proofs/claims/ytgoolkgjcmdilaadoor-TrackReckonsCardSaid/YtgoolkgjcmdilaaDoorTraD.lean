/-
  Books: AddFence where it takes one in; Move of a new object.
-/
import Derived.Test.YtgoolkgjcmdilaaDoorTraC
namespace Go.Proofs.YtgoolkgjcmdilaaDoor
open Go.RowKit
set_option linter.unusedVariables false
set_option linter.unusedSimpArgs false
attribute [local go_sem] Oper.semAt_some

def AddFPost (w : World) (bN bP : Nat) (u vP : Value) (Fs : List (Int × Int)) (rN fe : Int) (B : List Bool) (e : Ending) (w' : World) : Prop :=
  ∃ a u' ws', e = .returned (.int .i64 0) ∧ FirstAt B 0 false a ∧ BitsAt w' bP vP (addB B a) ws' ∧ TabN w' bN u' (insAt Fs fe a) rN ∧ (u'.ownBlock = u.ownBlock ∨ ∃ g, u'.ownBlock = some g ∧ w.heap.size ≤ g) ∧ Fr (bN :: (u.ownBlock.toList ++ vP.ownBlock.toList)) w w'
set_option maxRecDepth 100000 in
theorem addF_new (w : World) (k bO bN bP : Nat) (u vP : Value) (Fs : List (Int × Int)) (rN fe : Int) (B : List Bool) (ws : List Nat)
    (h : BkAt w k bO bN bP) (hN : TabN w bN u Fs rN) (hB : BitsAt w bP vP B ws) (hT : DeB w) (hf : U32 fe) (hl : hasId Fs fe = false) (hfree : ∀ a, FirstAt B 0 false a → 0 ≤ a) (hlen : (Fs.length : Int) < rN) :
    Calls Tryd.prog 94 #[.pointer (some ⟨k, 0, none⟩), .int .u32 fe] w (AddFPost w bN bP u vP Fs rN fe B) := by
  have c1 := Blk.at h 1 (v := .pointer (some ⟨bN, 0, none⟩)) rfl
  have HC := Lib.hid (getN_no w bN u Fs rN fe hN hf hl)
  have n1 : bN ∉ vP.ownBlock.toList := own_notin hB.own hN.hd (by decide)
  have n2 : bP ∉ u.ownBlock.toList := own_notin hN.own hB.hd (by decide)
  have n3 : bP ≠ bN := hB.hd.ne hN.hd (by decide)
  have n4 : k ∉ vP.ownBlock.toList := own_notin hB.own h (by decide)
  have n5 : ∀ g, u.ownBlock = some g → g ∉ vP.ownBlock.toList := fun g hg => own_ne3 hN.own hB.own (by decide) hg
  have n6 : ∀ g, vP.ownBlock = some g → g ∉ u.ownBlock.toList := fun g hg => own_ne3 hB.own hN.own (by decide) hg
  have HS := Lib.hid (And.intro n1 (And.intro n2 (And.intro n3 (And.intro n4 (And.intro n5 n6)))))
  have HH := Lib.hid (And.intro h (And.intro hB (And.intro hT (And.intro hfree (And.intro hN (And.intro hf (And.intro hl hlen)))))))
  clear h hN hB hT hf hl hfree hlen n1 n2 n3 n4 n5 n6
  go_enter Tryd.func94, Tryd.ntmps94
  go_wp2_with fail
  (with_reducible refine (there_yes _ k bO bN bP HH.out.1).mono ?_)
  rintro e w1 ⟨rfl, rfl⟩
  go_wp2_with fail
  (with_reducible refine (HC.out).mono ?_)
  rintro e w1 ⟨rfl, f1⟩
  have c2 := Blk.at (HH.out.1.grow f1) 2 (v := .pointer (some ⟨bP, 0, none⟩)) rfl
  have HF := Lib.hid f1
  clear f1 c1
  go_wp2_with fail
  (with_reducible refine (freeZ_any w1 bP vP B ws 0 (HH.out.2.1.grow HF.out) (deB_fr2 HH.out.2.2.1 HF.out)).mono ?_)
  rintro e w2 ⟨a, rfl, ha, rfl⟩
  have ha0 : ¬ a < 0 := by have := HH.out.2.2.2.1 a ha; omega
  have HA := Lib.hid ha
  clear ha
  go_wp2_with fail
  (with_reducible refine (add_any w1 bP vP B ws a (HH.out.2.1.grow HF.out)).mono ?_)
  rintro e w2 ⟨rfl, ⟨ws', hB2⟩, f2⟩
  have c3 := Blk.at ((HH.out.1.grow HF.out).fr f2 HS.out.2.2.2.1) 1 (v := .pointer (some ⟨bN, 0, none⟩)) rfl
  have hN2 := (HH.out.2.2.2.2.1.grow HF.out).fr f2 HS.out.1 HS.out.2.2.2.2.1
  have HB := Lib.hid (And.intro hB2 (And.intro f2 hN2))
  clear hB2 f2 hN2 c2
  go_wp2_with fail
  (with_reducible refine (putN_new w2 bN u Fs rN fe a HB.out.2.2 HH.out.2.2.2.2.2.1 HH.out.2.2.2.2.2.2.1 (by have := HH.out.2.2.2.2.2.2.2; omega)).mono ?_)
  rintro e w3 ⟨rfl, u', hT3, hv, f3⟩
  have HR := Lib.hid (And.intro hT3 (And.intro hv f3))
  clear hT3 hv f3 c3
  go_wp2_with fail
  obtain ⟨n1, n2, n3, n4, n5, n6⟩ := HS.out
  obtain ⟨hT3, hv, f3⟩ := HR.out
  obtain ⟨hB2, f2, hN2⟩ := HB.out
  have f12 := (HF.out.mono (T := vP.ownBlock.toList) (by simp)).trans f2 (fun s hs => .inl hs)
  have f13 : Fr (bN :: (u.ownBlock.toList ++ vP.ownBlock.toList)) w w3 :=
    (f12.mono (T := bN :: (u.ownBlock.toList ++ vP.ownBlock.toList)) (fun s hs => .inl (List.mem_cons_of_mem _ (List.mem_append_right _ hs)))).trans f3 (fun s hs => .inl (by
      rcases List.mem_cons.1 hs with rfl | hs
      · exact List.mem_cons_self
      · exact List.mem_cons_of_mem _ (List.mem_append_left _ hs)))
  refine bodyPost_ret (v := .int .i64 0) (by simp [results, Tryd.results94, go_sem]) rfl
    ⟨a, u', ws', rfl, HA.out, hB2.fr f3 ?_ ?_, hT3, ?_, f13⟩
  · intro hs
    rcases List.mem_cons.1 hs with h | h
    · exact n3 h
    · exact n2 h
  · intro g hg hs
    rcases List.mem_cons.1 hs with h | h
    · exact n1 (by rw [hg]; simp [h])
    · exact n6 g hg h
  · rcases hv with h | ⟨g, h, hge⟩
    · exact .inl h
    · exact .inr ⟨g, h, Nat.le_trans f12.size hge⟩
set_option maxRecDepth 100000 in
theorem move_new (w : World) (k bO bN bP : Nat) (v u : Value) (Os : List (Int × Nat)) (Fs : List (Int × Int)) (rO : Int) (rN : Nat) (id num t px py : Int)
    (h : BkAt w k bO bN bP) (hO : TabO w bO v Os rO) (hN : TabN w bN u Fs rN) (hi : U32 id) (hh : hasId Os id = false) (hlen : (Os.length : Int) < rO) :
    Calls Tryd.prog 93 #[.pointer (some ⟨k, 0, none⟩), .int .u32 id, .int .u32 num, .int .u32 t, .agg #[.int .i32 px, .int .i32 py]] w fun e w' =>
      ∃ x bB vB ws v', e = .returned (.tuple #[.agg #[.int .i32 0, .int .i32 0], .bool false, .int .i64 0]) ∧ ObAt w' x bB id num t px py 0 ∧ BitsAt w' bB vB (List.replicate rN false) ws ∧ TabO w' bO v' (insAt Os id x) rO
        ∧ (v'.ownBlock = v.ownBlock ∨ ∃ g, v'.ownBlock = some g ∧ w.heap.size ≤ g) ∧ w.heap.size ≤ x ∧ w.heap.size ≤ bB ∧ (∀ g, vB.ownBlock = some g → w.heap.size ≤ g) ∧ Fr (bO :: v.ownBlock.toList) w w' := by
  have F0 : Fr [] w ((w.alloc (.cells #[.int .i32 px, .int .i32 py] 98)).alloc (.cells #[.int .i32 0, .int .i32 0] 98)) := ((Fr.refl _ _).alloc _).alloc _
  have hA := (Blk.new w #[.int .i32 px, .int .i32 py] 98).alloc (.cells #[.int .i32 0, .int .i32 0] 98)
  have hR := Blk.new (w.alloc (.cells #[.int .i32 px, .int .i32 py] 98)) #[.int .i32 0, .int .i32 0] 98
  have c0 := Blk.at (h.grow F0) 0 (v := .pointer (some ⟨bO, 0, none⟩)) rfl
  have HQ := Lib.hid (And.intro hi (And.intro hh (And.intro hlen (And.intro F0 hO.low))))
  have HH := Lib.hid (And.intro (h.grow F0) (And.intro (hO.grow F0) (And.intro (hN.grow F0) (And.intro hA hR))))
  clear h hO hN hi hh hlen F0 hA hR
  go_enter Tryd.func93, Tryd.ntmps93
  go_wp2_with fail
  (with_reducible refine (there_yes _ k bO bN bP HH.out.1).mono ?_)
  rintro e w1 ⟨rfl, rfl⟩
  go_wp2_with fail
  obtain ⟨h, hO, hN, hA, hR⟩ := HH.out
  obtain ⟨hi, hh, hlen, F0, hlo⟩ := HQ.out
  clear HH HQ c0
  rw [show (w.alloc (.cells #[.int .i32 px, .int .i32 py] 98)).heap.size = w.heap.size + 1 by simp] at hR
  obtain ⟨w1, hw1⟩ : ∃ w1, (w.alloc (.cells #[.int .i32 px, .int .i32 py] 98)).alloc (.cells #[.int .i32 0, .int .i32 0] 98) = w1 := ⟨_, rfl⟩
  have g0 : w.heap.size ≤ w.heap.size + 1 := by omega
  have g00 : w.heap.size ≤ w.heap.size := Nat.le_refl _
  rw [hw1] at h hO hN hA hR F0 ⊢
  generalize w.heap.size + 1 = a1 at hR g0 ⊢
  obtain ⟨a0, ha0⟩ : ∃ a0, a0 = w.heap.size := ⟨_, rfl⟩
  rw [← ha0] at hA ⊢
  have HQ := Lib.hid (And.intro hi (And.intro hh (And.intro hlen (And.intro F0 (And.intro hlo g0)))))
  have HH := Lib.hid (And.intro h (And.intro hO (And.intro hN (And.intro hA hR))))
  clear h hO hN hA hR hi hh hlen F0 hlo g0 g00 hw1 ha0
  (with_reducible refine (getO_no w1 bO v Os rO id HH.out.2.1 HQ.out.1 HQ.out.2.1).mono ?_)
  rintro e w2 ⟨rfl, f2⟩
  have HF2 := Lib.hid f2
  clear f2
  go_wp2_with fail
  (with_reducible refine (room_any w2 k bO bN bP v Os rO (HH.out.1.grow HF2.out) (HH.out.2.1.grow HF2.out)).mono ?_)
  rintro e w3 ⟨rfl, f3⟩
  have hroom : decide ((Os.length : Int) < rO) = true := decide_eq_true HQ.out.2.2.1
  rw [hroom]
  have hf := HF2.out.trans f3 (by simp)
  have hA := hf.blk HH.out.2.2.2.1 (by simp)
  have hA0 := hA.at 0 (v := .int .i32 px) rfl
  have hA1 := hA.at 1 (v := .int .i32 py) rfl
  have HF := Lib.hid hf
  clear hf f3 HF2 hroom hA
  go_wp2_with fail
  (with_reducible refine (put_any' w3 k bO bN bP v u Os Fs rO rN id num t px py 0 none 0 0 (HH.out.1.grow HF.out) (HH.out.2.1.grow HF.out) (HH.out.2.2.1.grow HF.out) HQ.out.1 HQ.out.2.1 HQ.out.2.2.1).mono ?_)
  rintro e w4 ⟨x, bB, vB, ws, v', rfl, hX, hB, hT, hv, n1, n2, n3, f4⟩
  have hn : a1 ∉ bO :: v.ownBlock.toList := fun hs => Nat.lt_irrefl _ (Nat.lt_of_lt_of_le (HQ.out.2.2.2.2.1 _ hs) HQ.out.2.2.2.2.2)
  have hR := f4.blk (HF.out.blk HH.out.2.2.2.2 (by simp)) hn
  have hR0 := hR.at 0 (v := .int .i32 0) rfl
  have hR1 := hR.at 1 (v := .int .i32 0) rfl
  have hF0 := hR.free 0
  have hF1 := hR.free 1
  have HR := Lib.hid (And.intro hX (And.intro hB (And.intro hT (And.intro hv (And.intro n1 (And.intro n2 (And.intro n3 (And.intro f4 (And.intro hn hR)))))))))
  clear hX hB hT hv n1 n2 n3 f4 hn hR hA0 hA1
  go_wp2_with fail
  clear hR0 hR1 hF0 hF1
  obtain ⟨hX, hB, hT, hv, n1, n2, n3, f4, hn, hR⟩ := HR.out
  have hlt : a1 < w3.heap.size := (HF.out.blk HH.out.2.2.2.2 (by simp)).lt
  have FS : Fr [a1] w4 ((w4.setCell ⟨a1, 0, none⟩ (.int .i32 0)).setCell ⟨a1, 1, none⟩ (.int .i32 0)) := ((Fr.refl [a1] w4).setCell _ _ (.inl (by simp))).setCell _ _ (.inl (by simp))
  have hR5 : Blk ((w4.setCell ⟨a1, 0, none⟩ (.int .i32 0)).setCell ⟨a1, 1, none⟩ (.int .i32 0)) a1 #[.int .i32 0, .int .i32 0] 98 := by simpa using (hR.set 0 (.int .i32 0)).set 1 (.int .i32 0)
  obtain ⟨w5, hw5⟩ : ∃ w5, (w4.setCell ⟨a1, 0, none⟩ (.int .i32 0)).setCell ⟨a1, 1, none⟩ (.int .i32 0) = w5 := ⟨_, rfl⟩
  rw [hw5] at FS hR5 ⊢
  have e0 := hR5.at 0 (v := .int .i32 0) rfl
  have e1 := hR5.at 1 (v := .int .i32 0) rfl
  have f0 := HQ.out.2.2.2.1.trans HF.out (by simp)
  refine bodyPost_ret (v := .tuple #[.agg #[.int .i32 0, .int .i32 0], .bool false, .int .i64 0]) (by simp [results, Tryd.results93, go_sem, e0, e1]) rfl
    ⟨x, bB, vB, ws, v', rfl, FS.blk hX (by simp; omega), hB.fr FS (by simp; omega) (fun g hg => by have := n3 g hg; simp; omega), hT.fr FS (fun h => hn (by simp at h; simp [h])) (fun g hg hs => ?_), ?_, Nat.le_trans f0.size n1, Nat.le_trans f0.size n2, fun g hg => Nat.le_trans f0.size (n3 g hg), ?_⟩
  · simp at hs
    subst hs
    rcases hv with h | ⟨g', h, hge⟩
    · exact hn (List.mem_cons_of_mem _ (by rw [← h, hg]; simp))
    · rw [hg] at h; cases h; omega
  · rcases hv with h | ⟨g, h, hge⟩
    · exact .inl h
    · exact .inr ⟨g, h, Nat.le_trans f0.size hge⟩
  · exact ((f0.mono (T := bO :: v.ownBlock.toList) (by simp)).trans f4 (fun s hs => .inl hs)).trans FS (fun s hs => .inr (by simp at hs; subst hs; exact HQ.out.2.2.2.2.2))
end Go.Proofs.YtgoolkgjcmdilaaDoor
