/-
  works: what every statement of the chapter asks last.
-/
import Derived.Test.YtgoolkgjcmdilaaDoorTraE
import Derived.Test.YtgoolkgjcmdilaaDoorTraD
namespace Go.Proofs.YtgoolkgjcmdilaaDoor
open Go.RowKit
set_option linter.unusedVariables false
set_option linter.unusedSimpArgs false
attribute [local go_sem] Oper.semAt_some

theorem neqSp (w : World) : (binOp .neq 102 (.float .f64 4599301119452119040) (.float .f64 4599301119452119040)).run Tryd.prog w = .ok (.bool false) w := by kernel_rfl
attribute [local go_sem high] neqSp
theorem u4 : U32 4 := by unfold U32; omega
theorem u9 : U32 9 := by unfold U32; omega
theorem at4 (x : Nat) : (insAt ([] : List (Int × Nat)) 4 x)[rank (insAt ([] : List (Int × Nat)) 4 x) 4]? = some (4, x) := rfl
theorem at9 (x : Int) : (insAt ([] : List (Int × Int)) 9 x)[rank (insAt ([] : List (Int × Int)) 9 x) 9]? = some (9, x) := rfl
theorem newK11 (w : World) : Calls Tryd.prog 50 #[.int .i64 1, .int .i64 1] w (NewKPost w 1 1) := newK_ok w 1 1 (by decide) (by decide) (by decide) (by decide)
set_option maxRecDepth 100000 in
theorem works_any (w : World) (hT : DeB w) : Calls Tryd.prog 41 #[] w fun e w' => e = .returned (.bool true) ∧ Fr [] w w' := by
  have HT := Lib.hid hT
  clear hT
  go_enter Tryd.func41, Tryd.ntmps41
  go_wp2_with fail
  (with_reducible refine (newK11 _).mono ?_)
  rintro e w1 ⟨k, bO, bN, bP, vO, vN, vP, ws, rfl, hK, hO, hN, hB, q1, q2, q3, q4, q5, q6, q7, f1⟩
  have H1 := Lib.hid (And.intro hK (And.intro hO (And.intro hN hB)))
  have HL := Lib.hid (And.intro q1 (And.intro q2 (And.intro q3 (And.intro q4 (And.intro q5 (And.intro q6 (And.intro q7 f1)))))))
  clear hK hO hN hB q1 q2 q3 q4 q5 q6 q7 f1
  go_wp2_with fail
  (with_reducible refine (speed_one _).mono ?_)
  rintro e w2 ⟨rfl, f2⟩
  have H2 := Lib.hid (And.intro (H1.out.1.grow f2) (And.intro (H1.out.2.1.grow f2) (And.intro (H1.out.2.2.1.grow f2) (H1.out.2.2.2.grow f2))))
  have HF2 := Lib.hid (HL.out.2.2.2.2.2.2.2.trans f2 (by simp))
  clear f2 H1
  go_wp2_with fail
  (with_reducible refine (move_new w2 k bO bN bP vO vN [] [] ((1 : Nat) : Int) 1 4 1 0 2 0 H2.out.1 H2.out.2.1 H2.out.2.2.1 u4 rfl (by decide)).mono ?_)
  rintro e w3 ⟨x, bB, vB, ws1, vO', rfl, hX, hBB, hO3, hvO, n1, n2, n3, f3⟩
  obtain ⟨hK, hO, hN, hB⟩ := H2.out
  have hK3 := hK.fr f3 (by
    intro hs
    rcases List.mem_cons.1 hs with h | h
    · exact Blk.ne hK hO.hd (by decide) h
    · exact own_notin hO.own hK (by decide) h)
  have hN3 := hN.fr f3 (by
    intro hs
    rcases List.mem_cons.1 hs with h | h
    · exact hN.hd.ne hO.hd (by decide) h
    · exact own_notin hO.own hN.hd (by decide) h) (by
    intro g hg hs
    rcases List.mem_cons.1 hs with h | h
    · subst h; exact own_notin hN.own hO.hd (by decide) (by simp [hg])
    · exact own_ne3 hN.own hO.own (by decide) hg h)
  have hB3 := hB.fr f3 (by
    intro hs
    rcases List.mem_cons.1 hs with h | h
    · exact hB.hd.ne hO.hd (by decide) h
    · exact own_notin hO.own hB.hd (by decide) h) (by
    intro g hg hs
    rcases List.mem_cons.1 hs with h | h
    · subst h; exact own_notin hB.own hO.hd (by decide) (by simp [hg])
    · exact own_ne3 hB.own hO.own (by decide) hg h)
  have hPl : ∀ g, vP.ownBlock = some g → g < w2.heap.size := fun g hg => own_lt hB.own hg
  have hf3 : Fr [] w w3 := HF2.out.trans f3 (fun s hs => .inr (by
    rcases List.mem_cons.1 hs with h | h
    · subst h; exact HL.out.1
    · exact HL.out.2.1 s (by simpa using h)))
  have F4 : Fr [] w3 (w3.alloc (.cells #[.int .i32 0, .int .i32 0] 98)) := (Fr.refl _ _).alloc _
  have H3 := Lib.hid (And.intro (hK3.grow F4) (And.intro (hN3.grow F4) (And.intro (hB3.grow F4) (And.intro (F4.blk hX (by simp)) (And.intro (hBB.grow F4) (And.intro (hO3.grow F4) (hf3.trans F4 (by simp))))))))
  have HN3 := Lib.hid (And.intro (Nat.le_trans HF2.out.size n2) (And.intro (fun g hg => n3 g hg) hPl))
  clear hK hO hN hB hX hBB hO3 hvO n1 n2 n3 f3 hK3 hN3 hB3 hPl hf3 F4 H2
  go_wp2_with fail
  have HW : ∃ w4, w3.alloc (.cells #[.int .i32 0, .int .i32 0] 98) = w4 := ⟨_, rfl⟩
  obtain ⟨w4, hw4⟩ := HW
  rw [hw4] at H3 ⊢
  generalize w3.heap.size = c9 at *
  clear hw4
  have hfree : ∀ a, FirstAt (List.replicate 1 false) 0 false a → a = 0 := by
    intro a ha
    rcases ha with ⟨i, rfl, -, h2, -, -⟩ | ⟨rfl, h2⟩
    · simp at h2; omega
    · exact absurd rfl (h2 0 (by omega) (by simp))
  have HFR := Lib.hid hfree
  clear hfree
  (with_reducible refine (addF_new w4 k bO bN bP vN vP [] ((1 : Nat) : Int) 9 (List.replicate 1 false) ws H3.out.1 H3.out.2.1 H3.out.2.2.1 (deB_fr2 HT.out H3.out.2.2.2.2.2.2) u9 rfl (fun a ha => by rw [HFR.out a ha]; decide) (by decide)).mono ?_)
  rintro e w5 ⟨a, vN', ws5, rfl, ha, hB5, hN5, hvN, f5⟩
  obtain rfl := HFR.out a ha
  obtain ⟨hK, hN, hB, hX, hBB, hO, f04⟩ := H3.out
  have n0 : ∀ s, s ∈ bN :: (vN.ownBlock.toList ++ vP.ownBlock.toList) → s = bN ∨ s ∈ vN.ownBlock.toList ∨ s ∈ vP.ownBlock.toList := by
    intro s hs
    rcases List.mem_cons.1 hs with h | h
    · exact .inl h
    · exact .inr (List.mem_append.1 h)
  have hK5 := hK.fr f5 (by
    intro hs
    rcases n0 _ hs with h | h | h
    · exact Blk.ne hK hN.hd (by decide) h
    · exact own_notin hN.own hK (by decide) h
    · exact own_notin hB.own hK (by decide) h)
  have hX5 : ObAt w5 x bB 4 1 0 2 0 0 := f5.blk hX (by
    intro hs
    rcases n0 _ hs with h | h | h
    · exact Blk.ne hX hN.hd (by decide) h
    · exact own_notin hN.own hX (by decide) h
    · exact own_notin hB.own hX (by decide) h)
  have hO5 := hO.fr f5 (by
    intro hs
    rcases n0 _ hs with h | h | h
    · exact hO.hd.ne hN.hd (by decide) h
    · exact own_notin hN.own hO.hd (by decide) h
    · exact own_notin hB.own hO.hd (by decide) h) (by
    intro g hg hs
    rcases n0 _ hs with h | h | h
    · subst h; exact own_notin hO.own hN.hd (by decide) (by simp [hg])
    · exact own_ne3 hO.own hN.own (by decide) hg h
    · exact own_ne3 hO.own hB.own (by decide) hg h)
  have hBB5 := hBB.fr f5 (by
    intro hs
    rcases n0 _ hs with h | h | h
    · exact hBB.hd.ne hN.hd (by decide) h
    · exact own_notin hN.own hBB.hd (by decide) h
    · exact own_notin hB.own hBB.hd (by decide) h) (by
    intro g hg hs
    rcases n0 _ hs with h | h | h
    · subst h; exact own_notin hBB.own hN.hd (by decide) (by simp [hg])
    · exact own_ne3 hBB.own hN.own (by decide) hg h
    · have h1 := HN3.out.2.1 g hg
      have h2 := HN3.out.2.2 g (by simpa using h)
      omega)
  have f05 : Fr [] w w5 := f04.trans f5 (fun s hs => .inr (by
    rcases n0 _ hs with h | h | h
    · subst h; exact HL.out.2.2.1
    · exact HL.out.2.2.2.1 s (by simpa using h)
    · exact HL.out.2.2.2.2.2.1 s (by simpa using h)))
  have H5 := Lib.hid (And.intro hK5 (And.intro hO5 (And.intro hN5 (And.intro hX5 (And.intro hBB5 f05)))))
  clear hK hN hB hX hBB hO f04 n0 hK5 hX5 hO5 hBB5 hN5 hB5 hvN f5 f05 ha H3 HFR
  go_wp2_with fail
  (with_reducible refine (enter_yes w5 k bO bN bP vO' vN' _ _ _ _ 4 9 x 0 bB vB (List.replicate 1 false) ws1 4 1 0 2 0 0 H5.out.1 H5.out.2.1 H5.out.2.2.1 u4 u9 (at4 x) (at9 0) H5.out.2.2.2.1 H5.out.2.2.2.2.1).mono ?_)
  rintro e w6 ⟨rfl, ⟨ws6, hBB6⟩, f6⟩
  rw [show addA (List.replicate 1 false) 0 = true by decide]
  obtain ⟨hK, hO, hN, hX, hBB, f05⟩ := H5.out
  have hK6 := hK.fr f6 (own_notin hBB.own hK (by decide))
  have hX6 : ObAt w6 x bB 4 1 0 2 0 0 := f6.blk hX (own_notin hBB.own hX (by decide))
  have hO6 := hO.fr f6 (own_notin hBB.own hO.hd (by decide)) (fun g hg => own_ne3 hO.own hBB.own (by decide) hg)
  have hN6 := hN.fr f6 (own_notin hBB.own hN.hd (by decide)) (fun g hg => own_ne3 hN.own hBB.own (by decide) hg)
  have f06 : Fr [] w w6 := f05.trans f6 (fun s hs => .inr (Nat.le_trans HF2.out.size (HN3.out.2.1 s (by simpa using hs))))
  have H6 := Lib.hid (And.intro hK6 (And.intro hO6 (And.intro hN6 (And.intro hX6 (And.intro hBB6 f06)))))
  clear hK hO hN hX hBB f05 hK6 hX6 hO6 hN6 f06 hBB6 f6 H5
  go_wp2_with fail
  (with_reducible refine (in_yes w6 k bO bN bP vO' vN' _ _ _ _ 4 9 x 0 bB vB _ ws6 4 1 0 2 0 0 H6.out.1 H6.out.2.1 H6.out.2.2.1 u4 u9 (at4 x) (at9 0) H6.out.2.2.2.1 H6.out.2.2.2.2.1).mono ?_)
  rintro e w7 ⟨rfl, f7⟩
  rw [show hasB (addB (List.replicate 1 false) 0) 0 = true by decide]
  have hK7 := H6.out.1.grow f7
  have hO7 := H6.out.2.1.grow f7
  have f07 := H6.out.2.2.2.2.2.trans f7 (by simp)
  have H7 := Lib.hid (And.intro hK7 (And.intro hO7 f07))
  clear hK7 hO7 f07 f7 H6
  go_wp2_with fail
  (with_reducible refine (lenK_any w7 k bO bN bP vO' _ _ H7.out.1 H7.out.2.1).mono ?_)
  rintro e w8 ⟨rfl, rfl⟩
  rw [show ((insAt ([] : List (Int × Nat)) 4 x).length : Int) = 1 from rfl]
  go_wp2_with fail
  refine bodyPost_ret (v := .bool true) (by simp [results, Tryd.results41, go_sem]) rfl ⟨rfl, H7.out.2.2⟩
end Go.Proofs.YtgoolkgjcmdilaaDoor
