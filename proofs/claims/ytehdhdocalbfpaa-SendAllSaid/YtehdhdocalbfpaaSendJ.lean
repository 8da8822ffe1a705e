/-
  Box, where there is nothing in the box, by contract.
-/
import Derived.Test.YtehdhdocalbfpaaSendE
import Derived.Test.YtehdhdocalbfpaaQueueNB
namespace Go.Proofs.Ytehdhdocalbfpaa
open Go.RowKit Go.Shelf ring
set_option linter.unusedVariables false
attribute [local go_sem] Oper.semAt_some run_storeEv0

theorem eall_no (w : World) (b g : Nat) (Cs : List Ev) (f : Nat) (most : Nat) (h : ERing w b g Cs f [] most) : Calls Try.prog 62 #[.pointer (some ⟨b, 0, none⟩)] w fun e w' => ∃ k, e = .returned (.func (Fn.func 79) #[] #[.pointer (some ⟨k, 0, none⟩)]) ∧ Blk w' k #[.slice none 0 0] 42 ∧ Fr [] w w' := by
  have hl := elen _ b g Cs f [] most (h.fr ((Fr.refl [] w).alloc (.cells #[.slice none 0 0] 42)) (by simp) (by simp))
  have hl : Calls Try.prog 57 #[.pointer (some ⟨b, 0, none⟩)] (w.alloc (.cells #[.slice none 0 0] 42)) fun e w' => e = .returned (.int .i64 0) ∧ w.alloc (.cells #[.slice none 0 0] 42) = w' := hl
  have HL := Lib.hid hl
  clear h hl
  go_enter Try.func62, Try.ntmps62
  go_wp2_with fail
  (with_reducible refine HL.out.mono ?_)
  rintro e w1 ⟨rfl, rfl⟩
  go_wp2_with fail
  refine wp_loop_rounds 1 ?_
  rw [rounds_succ]
  go_wp2
  go_ret
  exact ⟨_, rfl, Blk.new _ _ _, (Fr.refl _ _).alloc _⟩
theorem eall_tells (m k B : Nat) : Tells Fence.wide m Try.prog 79 #[.pointer (some ⟨k, 0, none⟩)] (fun (x : Int × Ev) => #[.int .i64 x.1, x.2.val]) [] (Kpb [] B) (fun xs => xs = []) (fun pre => pre <+: []) 0 (fun W => Blk W k #[.slice none 0 0] 42) (fun _ => True) := by
  intro l J Jx W hW hJ hJx hY h0
  refine callsIn_of_wp Try.func79 rfl trivial ?_ rfl
  simp only [Try.ntmps79, List.size_toArray, List.length_cons, List.length_nil, Nat.reduceAdd, Nat.reduceSub, Array.replicate_succ, Array.replicate_zero, List.push_toArray, List.append_toArray, List.nil_append, List.cons_append]
  refine wpIn_wide.2 ?_
  have c0 := hW.at 0 (v := .slice none 0 0) rfl
  have H0 := Lib.hid h0
  clear hJ hJx hY h0 hW
  go_wp2
  refine wp_loop_rounds 1 ?_
  rw [rounds_succ]
  go_wp2
  go_end0
  exact ⟨⟨_, rfl⟩, trivial, .inl ⟨[], rfl, H0.out⟩⟩
/-- What Box holds. -/
structure BXS (w : World) (z : Nat) (W : World) : Prop where
  a : Blk W z #[.slice none 0 0] 42
  fr : Fr [] w W
theorem bxs_ab (w : World) (z B : Nat) (hB : w.heap.size ≤ B) : Ab B [] (fun (_ : List (Int × Ev)) W => BXS w z W) := by
  intro s A A' row h hg hr
  exact ⟨blk_ab hg hr h.a (by simp), fr_ab hg hr hB h.fr (by simp)⟩
set_option maxRecDepth 100000 in
set_option maxHeartbeats 1000000 in
theorem box_empty (w : World) (S : List Nat) (sb win tmo most acked : Nat) (h : Snd w S sb win tmo most acked [] []) : Calls Try.prog 26 #[.pointer (some ⟨sb, 0, none⟩)] w fun e w' => e = .returned (.slice none 0 0) ∧ Fr [] w w' := by
  obtain ⟨rb, g, Cs, f, atv, hS, hb, hr, ho⟩ := h.ex
  have fa := (Fr.refl [] w).alloc (.cells #[.slice none 0 0] 42)
  have hA := Blk.new w #[.slice none 0 0] 42
  obtain ⟨z, hz⟩ : ∃ z, z = w.heap.size := ⟨_, rfl⟩
  rw [← hz] at hA
  have hb1 := fa.blk hb (by simp)
  have hr1 := hr.fr fa (by simp) (by simp)
  have HZ := Lib.hid (And.intro fa hA)
  clear h hS hb hr ho
  refine (callsIn_wide (n := 9)).1 ?_
  refine callsIn_of_wp_marks Try.func26 rfl trivial ?_ rfl
  simp only [Try.ntmps26, List.size_toArray, List.length_cons, List.length_nil, Nat.reduceAdd, Nat.reduceSub, Array.replicate_succ, Array.replicate_zero, List.push_toArray, List.append_toArray, List.nil_append, List.cons_append]
  gi_wp2_with fail
  simp only [← hz]
  clear hz fa hA
  generalize (w.alloc _) = w1 at *
  have c3 := hb1.at 3 (v := .pointer (some ⟨rb, 0, none⟩)) rfl
  have ht := Lib.hid (sthere_ok w1 sb rb c3)
  have hl := Lib.hid (eall_no w1 rb g Cs f most hr1)
  clear hb1 hr1
  refine ⟨trivial, ?_⟩
  refine (callsIn_wide.2 ht.out).mono ?_
  rintro e w2 ⟨rfl, rfl⟩
  gi_wp2_with fail
  refine ⟨trivial, ?_⟩
  refine (callsIn_wide.2 hl.out).mono ?_
  rintro e w3 ⟨k, rfl, hk, f3⟩
  have EH : BXS w z w3 := ⟨f3.blk HZ.out.2 (by simp), HZ.out.1.trans f3 (by simp)⟩
  have EH := Lib.hid EH
  have HK3 := Lib.hid hk
  have ES0 := EH
  clear f3 hk c3
  gi_wp2_with fail
  refine wpIn_range_tm (w := w3) (ps := #[13, 14]) (encs := fun (x : Int × Ev) => #[.int .i64 x.1, x.2.val]) rfl (by decide) (gf := 79) (lb := #[.pointer (some ⟨k, 0, none⟩)]) rfl trivial (enters_of Try.func79 (by kernel_rfl) rfl)
    (eall_tells _ k (w3.heap.size + 2)) Kpb.trans (fun W l o o' hl h1 h2 => Kpb.put o' (by simp) (by omega)) (fun W hf _ => hf.blk HK3.out (by simp)) (fun _ _ _ _ _ _ _ h => h) (by simp) (fun _ => rfl)
    (fun _ W => BXS w z W) (fun _ _ _ => False) (bxs_ab w z _ EH.out.fr.size) (fun c s A A' row h hg hr => h)
    EH.out
    (fun tm x a' W => True) ?hAx ?hassign ?hbody ?hdone ?hstop
  case hAx => exact fun x a' s A A' row h hg hr => h
  case hassign =>
    intro l pre x W K hI hK
    have HK := Lib.hid hK
    clear hK
    simp only [List.zip_toArray, Array.foldl]
    have hcan := can_new W
    gi_wp2
    have f : Fr [] W (layEv (W.alloc (.cells Ev.zero.cells.toArray 56)) W.heap.size 0 x.2) := (((Fr.refl [W.heap.size] W).alloc _).setEv 0 x.2 (.inl (by simp))).mono (by simp)
    have kf : ∀ B, KeepsFrom B W (layEv (W.alloc (.cells Ev.zero.cells.toArray 56)) W.heap.size 0 x.2) := fun B => ⟨f.size, fun k o _ hk _ => (f.block k (Array.getElem?_eq_some_iff.1 hk).1 (by simp)).trans hk⟩
    exact HK.out _ _ (kf _) ⟨fun _ hk => by simp at hk, kf _⟩ ⟨f.blk hI.a (by simp), hI.fr.trans f (by simp)⟩ trivial
  case hbody =>
    intro l pre x a' W _ _ _ _ hN
    omega
  case hdone =>
    rintro D xs W hD - hI hen hK
    have EH := Lib.hid hI
    have HD := Lib.hid (And.intro hD hK)
    have ca := hI.a.at 0 (v := .slice none 0 0) rfl
    have hff : Fr [] w (W.putObj D (.deferred none)) := EH.out.fr.putObj D _ (by have := HD.out.1; have := EH.out.fr.size; have := ES0.out.fr.size; omega)
    clear hI hen hK hD
    have HF := Lib.hid hff
    clear hff
    gi_wp2_with fail
    refine ⟨by simp, .inl ⟨_, _, rfl, run_takeDeferred HD.out.2, ?_⟩⟩
    refine ⟨.slice none 0 0, ?_, rfl, HF.out⟩
    simp [results, Try.results26, go_sem]
  case hstop => exact fun D c pre W _ _ h => h.elim

end Go.Proofs.Ytehdhdocalbfpaa
