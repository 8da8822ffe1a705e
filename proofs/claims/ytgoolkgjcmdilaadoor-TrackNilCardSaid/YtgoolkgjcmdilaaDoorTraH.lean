/-
  empty: a nil Book, and a zero one.
-/
import Derived.Test.YtgoolkgjcmdilaaDoorTraG
import Derived.Test.YtgoolkgjcmdilaaDoorBiK
namespace Go.Proofs.YtgoolkgjcmdilaaDoor
open Go.RowKit
set_option linter.unusedVariables false
set_option linter.unusedSimpArgs false
attribute [local go_sem] Oper.semAt_some

theorem tellsK_no (m g B0 : Nat) : Tells Fence.wide m Tryd.prog 111 #[.pointer (some ⟨g, 0, none⟩)] (fun (x : Value) => #[x]) [] (Kpb [] B0) (fun xs => xs = []) (fun pre => pre <+: []) 0 (fun W => Blk W g #[.slice none 0 0] 125) (fun _ => True) := by
  intro l J Jx W hW hJ hJx hY h0
  refine callsIn_of_wp Tryd.func111 rfl trivial ?_ rfl
  simp only [Tryd.ntmps111, List.size_toArray, List.length_cons, List.length_nil, Nat.reduceAdd, Nat.reduceSub, Array.replicate_succ, Array.replicate_zero, List.push_toArray, List.append_toArray, List.nil_append, List.cons_append]
  refine wpIn_wide.2 ?_
  have c0 := hW.at 0 (v := .slice none 0 0) rfl
  have H0 := Lib.hid h0
  clear hJ hJx hY h0 hW
  go_wp2
  go_loopw [7] (fun i wr => i = .int .i64 0 ∧ J [] wr) (fun _ _ => 0)
  case atStart => exact ⟨rfl, H0.out⟩
  case round =>
    obtain ⟨rfl, hJ0⟩ := hrel
    have H1 := Lib.hid hJ0
    clear hJ0
    go_wp2
    go_end0
    exact ⟨⟨_, rfl⟩, trivial, .inl ⟨[], rfl, H1.out⟩⟩
theorem eqlFn123 (w : World) (g : Nat) : (binOp .eql 123 (.func (.func 111) #[] #[.pointer (some ⟨g, 0, none⟩)]) Value.nilFunc).run Tryd.prog w = .ok (.bool false) w := by kernel_rfl
attribute [local go_sem high] eqlFn123
/-- A step as the law's. -/
def StpArr (kd ob fe nu ti px py a0 a1 a2 a3 a4 : Int) (sp : Nat) (up : Option Addr) (un uc : Nat) : Array Value :=
  #[.int .i64 kd, .int .u32 ob, .int .u32 fe, .int .u32 nu, .int .u32 ti, .int .i32 px, .int .i32 py, .int .u32 a0, .int .u32 a1, .int .u32 a2, .int .i32 a3, .int .i32 a4, .float .f64 sp, .slice up un uc]
set_option maxRecDepth 100000 in
theorem empty_any (w : World) (p : Option Addr) (kd ob fe nu ti px py a0 a1 a2 a3 a4 : Int) (sp : Nat) (up : Option Addr) (un uc : Nat) (h : NoK w p) :
    Calls Tryd.prog 59 #[.pointer p, .agg #[.int .i64 kd, .int .u32 ob, .int .u32 fe, .int .u32 nu, .int .u32 ti, .int .i32 px, .int .i32 py, .int .u32 a0, .int .u32 a1, .int .u32 a2, .int .i32 a3, .int .i32 a4, .float .f64 sp, .slice up un uc]] w fun e w' => e = .returned (.bool true) ∧ Fr [] w w' := by
  have F0 : Fr [] w ((w.alloc (.cells #[.int .i64 kd, .int .u32 ob, .int .u32 fe, .int .u32 nu, .int .u32 ti, .int .i32 px, .int .i32 py, .int .u32 a0, .int .u32 a1, .int .u32 a2, .int .i32 a3, .int .i32 a4, .float .f64 sp, .slice up un uc] 121)).alloc (.cells #[.bool false] 4)) := ((Fr.refl _ _).alloc _).alloc _
  have hA := (Blk.new w #[.int .i64 kd, .int .u32 ob, .int .u32 fe, .int .u32 nu, .int .u32 ti, .int .i32 px, .int .i32 py, .int .u32 a0, .int .u32 a1, .int .u32 a2, .int .i32 a3, .int .i32 a4, .float .f64 sp, .slice up un uc] 121).alloc (.cells #[.bool false] 4)
  have hR := Blk.new (w.alloc (.cells #[.int .i64 kd, .int .u32 ob, .int .u32 fe, .int .u32 nu, .int .u32 ti, .int .i32 px, .int .i32 py, .int .u32 a0, .int .u32 a1, .int .u32 a2, .int .i32 a3, .int .i32 a4, .float .f64 sp, .slice up un uc] 121)) #[.bool false] 4
  rw [show (w.alloc (.cells #[.int .i64 kd, .int .u32 ob, .int .u32 fe, .int .u32 nu, .int .u32 ti, .int .i32 px, .int .i32 py, .int .u32 a0, .int .u32 a1, .int .u32 a2, .int .i32 a3, .int .i32 a4, .float .f64 sp, .slice up un uc] 121)).heap.size = w.heap.size + 1 by simp] at hR
  have HH := Lib.hid (And.intro (h.grow F0) (And.intro F0 (And.intro hA hR)))
  have d1 := hA.at 1 (v := .int .u32 ob) rfl
  have d3 := hA.at 3 (v := .int .u32 nu) rfl
  have d4 := hA.at 4 (v := .int .u32 ti) rfl
  have d5 := hA.at 5 (v := .int .i32 px) rfl
  have d6 := hA.at 6 (v := .int .i32 py) rfl
  clear h F0 hA hR
  refine (callsIn_wide (n := 9)).1 ?_
  refine callsIn_of_wp_marks Tryd.func59 rfl trivial ?_ rfl
  simp only [Tryd.ntmps59, List.size_toArray, List.length_cons, List.length_nil, Nat.reduceAdd, Nat.reduceSub, Array.replicate_succ, Array.replicate_zero, List.push_toArray, List.append_toArray, List.nil_append, List.cons_append]
  gi_wp2
  refine ⟨trivial, (callsIn_wide.2 (move_no _ p ob nu ti px py HH.out.1)).mono ?_⟩
  rintro e w1 ⟨rfl, f1⟩
  have H1 := Lib.hid (And.intro (HH.out.1.grow f1) (And.intro (HH.out.2.1.trans f1 (by simp)) (And.intro (f1.blk HH.out.2.2.1 (by simp)) (f1.blk HH.out.2.2.2 (by simp)))))
  clear HH d1 d3 d4 d5 d6 f1
  have F1 : Fr [] w1 (w1.alloc (.cells #[.int .i32 0, .int .i32 0] 98)) := (Fr.refl _ _).alloc _
  have e1 := (F1.blk H1.out.2.2.1 (by simp)).at 1 (v := .int .u32 ob) rfl
  have e2 := (F1.blk H1.out.2.2.1 (by simp)).at 2 (v := .int .u32 fe) rfl
  have H2 := Lib.hid (And.intro (H1.out.1.grow F1) (And.intro (H1.out.2.1.trans F1 (by simp)) (And.intro (F1.blk H1.out.2.2.1 (by simp)) (F1.blk H1.out.2.2.2 (by simp)))))
  clear H1 F1
  gi_wp2
  refine ⟨trivial, (callsIn_wide.2 (enter_no _ p ob fe H2.out.1)).mono ?_⟩
  rintro e w2 ⟨rfl, rfl⟩
  gi_wp2
  refine ⟨trivial, (callsIn_wide.2 (leave_no _ p ob fe H2.out.1)).mono ?_⟩
  rintro e w2 ⟨rfl, rfl⟩
  gi_wp2
  refine ⟨trivial, (callsIn_wide.2 (get_no _ p ob H2.out.1)).mono ?_⟩
  rintro e w3 ⟨rfl, f3⟩
  have F3 : Fr [] w3 (w3.alloc (.cells #[.int .u32 0, .int .u32 0, .int .u32 0, .int .i32 0, .int .i32 0, .float .f64 0, .slice none 0 0] 119)) := (Fr.refl _ _).alloc _
  have f33 := f3.trans F3 (by simp)
  have H3 := Lib.hid (And.intro (H2.out.1.grow f33) (And.intro (H2.out.2.1.trans f33 (by simp)) (And.intro (f33.blk H2.out.2.2.1 (by simp)) (f33.blk H2.out.2.2.2 (by simp)))))
  clear H2 F3 f33 f3 e1 e2
  gi_wp2
  refine ⟨trivial, (callsIn_wide.2 (all_no _ p H3.out.1)).mono ?_⟩
  rintro e w4 ⟨rfl, hg, f4⟩
  rw [show (w3.alloc (.cells #[.int .u32 0, .int .u32 0, .int .u32 0, .int .i32 0, .int .i32 0, .float .f64 0, .slice none 0 0] 119)).heap.size = w3.heap.size + 1 by simp] at hg ⊢
  generalize w3.heap.size + 1 + 1 = g at hg ⊢
  have H4 := Lib.hid (And.intro (H3.out.1.grow f4) (And.intro (H3.out.2.1.trans f4 (by simp)) (And.intro (f4.blk H3.out.2.2.1 (by simp)) (And.intro (f4.blk H3.out.2.2.2 (by simp)) hg))))
  clear H3 f4 hg
  gi_wp2
  refine wpIn_range_tm (w := w4) (ps := #[60]) (encs := fun (x : Value) => #[x]) rfl (by decide) (gf := 111) (lb := #[.pointer (some ⟨g, 0, none⟩)]) rfl trivial (enters_of Tryd.func111 (by kernel_rfl) rfl)
    (tellsK_no _ g (w4.heap.size + 2)) Kpb.trans (fun W l o o' hl h1 h2 => Kpb.put o' (by simp) (by omega)) (fun W hf _ => hf.blk H4.out.2.2.2.2 (by simp)) (fun _ _ _ _ _ _ _ _ => trivial) (by simp) (fun _ => rfl)
    (fun _ W => Fr [] w4 W) (fun _ _ _ => False) (fun s A B row h hg hr => fr_ab hg hr (Nat.le_refl _) h (by simp)) (fun c s A B row h hg hr => h) (Fr.refl _ _)
    (fun tm x a' W => True) ?hAx ?hassign ?hbody ?hdone ?hstop
  case hAx => exact fun x a' s A A' row h hg hr => trivial
  case hassign =>
    intro l pre x W K hI hK
    have HK := Lib.hid hK
    clear hK
    simp only [List.zip_toArray, Array.foldl]
    gi_wp2
    exact HK.out _ _ (KeepsFrom.refl _ _) ⟨fun _ _ => rfl, KeepsFrom.refl _ _⟩ hI trivial
  case hbody =>
    rintro l pre x a' W hl - hI - hN
    exact absurd hN (Nat.not_lt_zero _)
  case hstop =>
    rintro D c pre W hD hp hI
    exact hI.elim
  case hdone =>
    rintro D xs W hD rfl hI hen hK
    have HK := Lib.hid hK
    have H5 := Lib.hid (And.intro (H4.out.1.grow hI) (And.intro (H4.out.2.1.trans hI (by simp)) (And.intro (hI.blk H4.out.2.2.1 (by simp)) (hI.blk H4.out.2.2.2.1 (by simp)))))
    clear hK hI hen
    have hA := H5.out.2.2.1
    have d1 := hA.at 1 (v := .int .u32 ob) rfl
    have d2 := hA.at 2 (v := .int .u32 fe) rfl
    have d7 := hA.at 7 (v := .int .u32 a0) rfl
    have d8 := hA.at 8 (v := .int .u32 a1) rfl
    have d9 := hA.at 9 (v := .int .u32 a2) rfl
    have d10 := hA.at 10 (v := .int .i32 a3) rfl
    have d11 := hA.at 11 (v := .int .i32 a4) rfl
    have d12 := hA.at 12 (v := .float .f64 sp) rfl
    have d13 := hA.at 13 (v := .slice up un uc) rfl
    clear hA
    gi_wp2
    refine ⟨trivial, (callsIn_wide.2 (lay_no W p a0 a1 a2 a3 a4 sp up un uc H5.out.1)).mono ?_⟩
    rintro e w6 ⟨rfl, f6⟩
    have H6 := Lib.hid (And.intro (H5.out.1.grow f6) (And.intro (H5.out.2.1.trans f6 (by simp)) (And.intro (f6.blk H5.out.2.2.1 (by simp)) (And.intro (f6.blk H5.out.2.2.2 (by simp)) ((f6.block D (Array.getElem?_eq_some_iff.1 HK.out).1 (by simp)).trans HK.out)))))
    clear H5 d1 d2 d7 d8 d9 d10 d11 d12 d13 f6 HK
    have hA := H6.out.2.2.1
    have d1 := hA.at 1 (v := .int .u32 ob) rfl
    have d2 := hA.at 2 (v := .int .u32 fe) rfl
    have r0 := H6.out.2.2.2.1.at 0 (v := .bool false) rfl
    have r1 := H6.out.2.2.2.1.free 0
    clear hA
    gi_wp2
    refine ⟨trivial, (callsIn_wide.2 (addF_no w6 p fe H6.out.1)).mono ?_⟩
    rintro e w7 ⟨rfl, rfl⟩
    gi_wp2
    refine ⟨trivial, (callsIn_wide.2 (forget_no w6 p ob H6.out.1)).mono ?_⟩
    rintro e w7 ⟨rfl, rfl⟩
    gi_wp2
    refine ⟨trivial, (callsIn_wide.2 (dropF_no w6 p fe H6.out.1)).mono ?_⟩
    rintro e w7 ⟨rfl, rfl⟩
    gi_wp2
    refine ⟨trivial, (callsIn_wide.2 (in_no w6 p ob fe H6.out.1)).mono ?_⟩
    rintro e w7 ⟨rfl, rfl⟩
    gi_wp2
    refine ⟨trivial, (callsIn_wide.2 (inside_no w6 p fe H6.out.1)).mono ?_⟩
    rintro e w7 ⟨rfl, rfl⟩
    gi_wp2
    refine ⟨trivial, (callsIn_wide.2 (len_no w6 p H6.out.1)).mono ?_⟩
    rintro e w7 ⟨rfl, rfl⟩
    gi_wp2
    obtain ⟨-, f06, -, hR, hK⟩ := H6.out
    have hne : w.heap.size + 1 ≠ D := fun e => by
      subst e
      have h9 : some (Obj.cells #[.bool false] 4 (0, 0)) = some (.deferred (some [])) := (show w6.heap[w.heap.size + 1]? = some (Obj.cells #[.bool false] 4 (0, 0)) from hR).symm.trans hK
      cases h9
    have FS : Fr [w.heap.size + 1] w6 (w6.setCell ⟨w.heap.size + 1, 0, none⟩ (.bool true)) := (Fr.refl _ _).setCell _ _ (.inl (by simp))
    have hKS := (FS.block D (Array.getElem?_eq_some_iff.1 hK).1 (by simp; omega)).trans hK
    have hRS : Blk (w6.setCell ⟨w.heap.size + 1, 0, none⟩ (.bool true)) (w.heap.size + 1) #[.bool true] 4 := by simpa using hR.set 0 (.bool true)
    have f09 : Fr [] w (w6.setCell ⟨w.heap.size + 1, 0, none⟩ (.bool true)) := f06.setCell _ _ (.inr (by simp))
    obtain ⟨w9, hw9⟩ : ∃ w9, w6.setCell ⟨w.heap.size + 1, 0, none⟩ (.bool true) = w9 := ⟨_, rfl⟩
    rw [hw9] at hKS hRS f09 ⊢
    have hDw : w.heap.size ≤ D := by
      have := H4.out.2.1.size
      omega
    have e0 : (w9.putObj D (.deferred none)).cell? ⟨w.heap.size + 1, 0, none⟩ = some (.bool true) := Blk.at (c := #[.bool true]) (e := 4) (by
      unfold Blk at hRS ⊢
      unfold World.putObj
      simp [Array.getElem?_setIfInBounds, hne, Ne.symm hne]
      simpa using hRS) 0 rfl
    refine ⟨by simp, .inl ⟨_, _, rfl, run_takeDeferred hKS, ?_⟩⟩
    exact ⟨.bool true, by simp [results, Tryd.results59, go_sem, e0], rfl, f09.putObj _ _ hDw⟩
end Go.Proofs.YtgoolkgjcmdilaaDoor
