/-
  Tb, part 35 of 36: the texts BooW.
-/
import Derived.Test.YtgoolkgjcmdilaaDoorTb34
section
namespace Go.Proofs.YtgoolkgjcmdilaaDoor
open Go.RowKit Flo
set_option linter.unusedVariables false
set_option linter.unusedSimpArgs false
attribute [local go_sem] Oper.semAt_some
theorem newK_no (w : World) (a b : Int) (h : a < 1 ∨ 64 < a ∨ b < 1 ∨ 64 < b) : Calls Tryd.prog 50 #[.int .i64 a, .int .i64 b] w fun e w' => e = .returned (.tuple #[.pointer none, .int .i64 2]) ∧ w = w' := by
  by_cases h1 : a < 1
  · go_enter Tryd.func50, Tryd.ntmps50
    go_wp2
    exact bodyPost_ret (v := .tuple #[.pointer none, .int .i64 2]) (by simp [results, Tryd.results50, go_sem]) rfl ⟨rfl, rfl⟩
  · by_cases h2 : 64 < a
    · go_enter Tryd.func50, Tryd.ntmps50
      go_wp2
      exact bodyPost_ret (v := .tuple #[.pointer none, .int .i64 2]) (by simp [results, Tryd.results50, go_sem]) rfl ⟨rfl, rfl⟩
    · by_cases h3 : b < 1
      · clear h
        go_enter Tryd.func50, Tryd.ntmps50
        go_wp2
        exact bodyPost_ret (v := .tuple #[.pointer none, .int .i64 2]) (by simp [results, Tryd.results50, go_sem]) rfl ⟨rfl, rfl⟩
      · have h4 : 64 < b := by omega
        clear h
        go_enter Tryd.func50, Tryd.ntmps50
        go_wp2
        exact bodyPost_ret (v := .tuple #[.pointer none, .int .i64 2]) (by simp [results, Tryd.results50, go_sem]) rfl ⟨rfl, rfl⟩
theorem infoKe : (Tryd.prog.info? 129).map (fun i => (i.zero, i.size, i.bytes)) = some (some (.agg #[.nilFunc, .slice none 0 0]), 2, 32) := by kernel_rfl
def Stab.allK (n0 : Nat) (V : List VO) : Stab := ⟨fun u W => ∃ bl v L, u = .func (.func 111) #[] #[.pointer (some ⟨bl, 0, none⟩)] ∧ KHeld bl v L V W ∧ ∀ g ∈ kblks bl v L, n0 ≤ g, fun u W W' f h => by
  obtain ⟨bl, v, L, h1, h2, h3⟩ := h
  exact ⟨bl, v, L, h1, h2.fr0 f, h3⟩⟩
def Stab.keptK (n0 nL cL : Nat) (pL : Option Addr) (V : List VO) : Stab := ⟨fun u W => ∃ bl v L, u = .agg #[.func (.func 111) #[] #[.pointer (some ⟨bl, 0, none⟩)], .slice pL nL cL] ∧ KHeld bl v L V W ∧ ∀ g ∈ kblks bl v L, n0 ≤ g, fun u W W' f h => by
  obtain ⟨bl, v, L, h1, h2, h3⟩ := h
  exact ⟨bl, v, L, h1, h2.fr0 f, h3⟩⟩
def Stab.oneK (n0 nL cL : Nat) (pL : Option Addr) (V : List VO) : Stab := ⟨fun u W => ∃ bl v L g, u = .slice (some ⟨g, 0, none⟩) 1 1 ∧ (∀ j y, ([.func (.func 111) #[] #[.pointer (some ⟨bl, 0, none⟩)], .slice pL nL cL] : List Value)[j]? = some y → W.cell? ((⟨g, 0, none⟩ : Addr).add j) = some y) ∧ g < W.heap.size ∧ KHeld bl v L V W ∧ ∀ g ∈ kblks bl v L, n0 ≤ g, fun u W W' f h => by
  obtain ⟨bl, v, L, g, h1, h2, h3, h4, h5⟩ := h
  refine ⟨bl, v, L, g, h1, fun j y hj => (f.cell (a := (⟨g, 0, none⟩ : Addr).add j) ?_ (by simp)).trans (h2 j y hj), Nat.lt_of_lt_of_le h3 f.size, h4.fr0 f, h5⟩
  rw [Addr.add_lit]
  exact h3⟩
def Stab.idsv (ids : List Int) : Stab := ⟨fun u W => ∃ p c, u = .slice p ids.length c ∧ IdS W u ids, fun u W W' f h => by
  obtain ⟨p, c, h1, h2⟩ := h
  exact ⟨p, c, h1, h2.grow f⟩⟩
theorem KBF.u32F {w : World} {N : List Nat} {k rO rN : Nat} {F : List Int} {V : List VO} (h : KBF w N k rO rN F V) : ∀ f ∈ F, U32 f := fun f hf => by
  obtain ⟨Fs, rfl, bO, bN, bP, v, u, vP, BP, Cs, h, hV⟩ := h
  obtain ⟨p, hp, rfl⟩ := List.mem_map.1 hf
  exact h.hN.ids p hp
/-- The books as they are made. -/
theorem St.new {w w1 w2 w3 : World} {rO rN : Nat} {k bO bN bP kr : Nat} {vO vN vP : Value} {ws : List Nat} (h1 : BkAt w1 k bO bN bP) (h2 : TabO w1 bO vO [] rO) (h3 : TabN w1 bN vN [] rN) (h4 : BitsAt w1 bP vP (List.replicate rN false) ws) (n1 : w.heap.size ≤ bO) (n2 : ∀ g, vO.ownBlock = some g → w.heap.size ≤ g) (n3 : w.heap.size ≤ bN) (n4 : ∀ g, vN.ownBlock = some g → w.heap.size ≤ g) (n5 : w.heap.size ≤ bP) (n6 : ∀ g, vP.ownBlock = some g → w.heap.size ≤ g) (n7 : w.heap.size ≤ k)
    (f1 : Fr [] w w1) (h5 : RfAt w2 kr rO rN (.slice none 0 0) (.slice none 0 0)) (n8 : w1.heap.size ≤ kr) (f2 : Fr [] w1 w2) (f3 : Fr [] w2 w3) (hT : DeB w) (m1 : rO ≤ 64) (m2 : rN ≤ 64) : ∃ M N, St w3 M N k kr rO rN [] [] ∧ ∀ s ∈ M, w.heap.size ≤ s := by
  obtain ⟨N, hN⟩ : ∃ N, N = k :: (bO :: vO.ownBlock.toList) ++ (bN :: vN.ownBlock.toList) ++ (bP :: vP.ownBlock.toList) := ⟨_, rfl⟩
  have hz : ∀ i, (List.replicate rN false).getD i false = false := fun i => by
    rw [List.getD_eq_getElem?_getD, List.getElem?_replicate]
    split <;> rfl
  have hmem : ∀ s, s ∈ N → w.heap.size ≤ s ∧ s < w1.heap.size := fun s hs => by
    rw [hN] at hs
    simp only [List.cons_append, List.append_assoc, List.mem_cons, List.mem_append, Option.mem_toList] at hs
    rcases hs with rfl | rfl | hs | rfl | hs | rfl | hs
    · exact ⟨n7, Blk.lt h1⟩
    · exact ⟨n1, h2.hd.lt⟩
    · exact ⟨n2 s hs, own_lt h2.own hs⟩
    · exact ⟨n3, h3.hd.lt⟩
    · exact ⟨n4 s hs, own_lt h3.own hs⟩
    · exact ⟨n5, h4.hd.lt⟩
    · exact ⟨n6 s hs, own_lt h4.own hs⟩
  have hkb : KBL w1 N k bO bN bP vO vN vP rO rN [] (List.replicate rN false) [] :=
    ⟨h1, h2, h3, ⟨ws, h4⟩, by simp, m1, m2, by simp, fun i => by rw [hz]; simp, fun f g p h => by simp at h, by simp, by simp, List.Pairwise.nil, by simp, by simp [hN], fun s hs => by rw [hN]; simp at hs ⊢; rcases hs with h | h <;> simp [h], fun s hs => by rw [hN]; simp at hs ⊢; rcases hs with h | h <;> simp [h], fun s hs => by rw [hN]; simp at hs ⊢; rcases hs with h | h <;> simp [h], by simp, fun s hs => (hmem s hs).2⟩
  have hkrl : kr < w2.heap.size := Blk.lt h5
  have hnil : ∀ (W : World) (sz : Nat), RdF W (.slice none 0 0) 0 sz [] := fun W sz => ⟨none, 0, rfl, Nat.le_refl _, by decide, by simp, .inl rfl⟩
  have hrb : RBook w2 (kr :: N) kr rO rN [] [] := ⟨_, _, [], h5, by simp, fun m hm => by
    rcases List.mem_cons.1 hm with rfl | hm
    · exact hkrl
    · exact Nat.lt_of_lt_of_le (hmem m hm).2 f2.size, fun W _ => hnil W 7, rfl, fun W _ => hnil W 1, by simp, by simp, by simp, by simp⟩
  have hge : ∀ s ∈ kr :: N, w.heap.size ≤ s := fun s hs => by
    rcases List.mem_cons.1 hs with rfl | hs
    · exact Nat.le_trans f1.size n8
    · exact (hmem s hs).1
  refine ⟨kr :: N, N, ⟨⟨[], rfl, bO, bN, bP, vO, vN, vP, _, [], hkb.grow (f2.trans f3 (by simp)), .nil⟩, hrb.grow f3, fun s hs => List.mem_cons_of_mem _ hs, fun hm => ?_, fun W F => ?_⟩, hge⟩
  · have := hmem kr hm; omega
  · exact deB_fr2 hT (((f1.trans f2 (by simp)).trans f3 (by simp)).trans F (fun s hs => .inr (hge s hs)))
set_option maxRecDepth 100000 in
set_option maxHeartbeats 8000000 in
theorem books_walk (w : World) (hT : DeB w) (a b : Int) (ps : Option Addr) (n cs : Nat) (Ss : List SV) (hS : RdF w (.slice ps n cs) Ss.length 14 (Ss.flatMap encS)) (hn : n = Ss.length) (hok : ∀ s ∈ Ss, StepOk w s) (hn0 : n ≤ 1599289640401) :
    Calls Tryd.prog 9 #[.int .i64 a, .int .i64 b, .slice ps n cs] w fun e w' => e = .returned (.bool true) ∧ Fr [] w w' := by
  by_cases hbad : a < 1 ∨ 64 < a ∨ b < 1 ∨ 64 < b
  · have HN := Lib.hid (And.intro (newK_no w a b hbad) (And.intro (rnew_no w a b hbad) (works_any w hT)))
    clear hT hS hn hok hbad
    go_enter Tryd.func9, Tryd.ntmps9
    go_wp2_with fail
    (with_reducible refine (HN.out.1).mono ?_)
    rintro e w1 ⟨rfl, rfl⟩
    go_wp2_with fail
    (with_reducible refine (HN.out.2.1).mono ?_)
    rintro e w1 ⟨rfl, rfl⟩
    go_wp2_with fail
    (with_reducible refine (HN.out.2.2).mono ?_)
    rintro e w1 ⟨rfl, f1⟩
    have HF := Lib.hid f1
    clear f1
    go_wp2_with fail
    exact bodyPost_ret (v := .bool true) (by simp [results, Tryd.results9, go_sem]) rfl ⟨rfl, HF.out⟩
  · obtain ⟨rO, rfl⟩ : ∃ rO : Nat, a = (rO : Int) := ⟨a.toNat, by omega⟩
    obtain ⟨rN, rfl⟩ : ∃ rN : Nat, b = (rN : Int) := ⟨b.toNat, by omega⟩
    have k1 : 1 ≤ rO := by omega
    have k2 : rO ≤ 64 := by omega
    have k3 : 1 ≤ rN := by omega
    have k4 : rN ≤ 64 := by omega
    have HT := Lib.hid (And.intro hT (And.intro k2 k4))
    have HN := Lib.hid (newK_ok w rO rN k1 k2 k3 k4)
    have HR := Lib.hid (fun w => rnew_ok w rO rN (by omega) (by omega) (by omega) (by omega))
    have HSS := Lib.hid (And.intro hS (And.intro hn hok))
    clear hT hS hn hok hbad k1 k2 k3 k4
    go_enter Tryd.func9, Tryd.ntmps9
    go_wp2_with fail
    (with_reducible refine (HN.out).mono ?_)
    rintro e w1 ⟨k, bO, bN, bP, vO, vN, vP, ws, rfl, h1, h2, h3, h4, n1, n2, n3, n4, n5, n6, n7, f1⟩
    have H1 := Lib.hid (And.intro h1 (And.intro h2 (And.intro h3 (And.intro h4 (And.intro n1 (And.intro n2 (And.intro n3 (And.intro n4 (And.intro n5 (And.intro n6 (And.intro n7 f1)))))))))))
    clear h1 h2 h3 h4 n1 n2 n3 n4 n5 n6 n7 f1 HN
    go_wp2_with fail
    (with_reducible refine (HR.out w1).mono ?_)
    rintro e w2 ⟨kr, rfl, h5, n8, f2⟩
    have H2 := Lib.hid (And.intro h5 (And.intro n8 f2))
    have HW := Lib.hid (works_any w2 (deB_fr2 HT.out.1 (H1.out.2.2.2.2.2.2.2.2.2.2.2.trans f2 (by simp))))
    clear h5 n8 f2
    go_wp2_with fail
    (with_reducible refine (HW.out).mono ?_)
    rintro e w3 ⟨rfl, f3⟩
    obtain ⟨h1, h2, h3, h4, n1, n2, n3, n4, n5, n6, n7, f1⟩ := H1.out
    obtain ⟨h5, n8, f2⟩ := H2.out
    obtain ⟨M, Nn, hst, hml⟩ := St.new h1 h2 h3 h4 n1 n2 n3 n4 n5 n6 n7 f1 h5 n8 f2 f3 HT.out.1 HT.out.2.1 HT.out.2.2
    have f03 : Fr [] w w3 := (f1.trans f2 (by simp)).trans f3 (by simp)
    have HB0 := Lib.hid (show BI w k kr rO rN M Nn [] [] (.slice none 0 0) [] 0 w3 from ⟨hst, f03, hml, (RowNew.start w 129 2).grow f03, by simp [Value.ownBlock], Nat.le_refl _, by simp⟩)
    clear h1 h2 h3 h4 n1 n2 n3 n4 n5 n6 n7 f1 h5 n8 f2 f3 hst hml f03 H1 H2 HW HR
    go_wp2_with fail
    go_loopw [10, 11] (fun lv i wr => ∃ (j : Nat) (M N : List Nat) (F : List Int) (V : List VO) (κs : List Kept), i = .int .i64 (j : Nat) ∧ j ≤ n ∧ BI w k kr rO rN M N F V lv κs j wr) (fun _ i _ => n - (intOf i).toNat)
    case atStart => exact ⟨0, _, _, _, _, _, rfl, Nat.zero_le _, HB0.out⟩
    case round =>
      obtain ⟨j, M1, N1, F, V, κs, rfl, hj, hbi⟩ := hrel
      obtain ⟨wr0, hwr0⟩ : ∃ wr0 : World, wr0 = wr := ⟨_, rfl⟩
      rw [← hwr0] at hbi ⊢
      clear hwr0 HB0
      obtain ⟨pl, cl, rfl⟩ := hbi.row.form
      obtain ⟨nl, hnl⟩ : ∃ nl, nl = κs.length := ⟨_, rfl⟩
      rw [← hnl] at hbi ⊢
      have HNL := Lib.hid hnl
      have hnlj : nl ≤ j := by have := hbi.len; omega
      have HBI := Lib.hid hbi
      by_cases hlt : j < n
      · obtain ⟨s, hs⟩ : ∃ s, Ss[j]? = some s := ⟨_, List.getElem?_eq_getElem (by have := HSS.out.2.1; omega)⟩
        obtain ⟨gS, oS, cpS, hv, -, -, hc⟩ := RdF.at encS encS_len HSS.out.1 hs
        obtain ⟨rfl, -, -⟩ := Value.slice.inj hv
        have HSO := Lib.hid (HSS.out.2.2 s (List.mem_of_getElem? hs))
        have l0 : (0 : Int) ≤ (j : Int) := by omega
        have l1 : (j : Int) < (n : Int) := by omega
        have hgS : gS < w.heap.size := World.block_lt_of_cell? w _ (hc 0 _ rfl)
        have hz0 : w.cell? ⟨gS, oS + j * 14, none⟩ = some (.int .i64 s.kd) := by have := hc 0 _ rfl; simpa [Nat.add_assoc] using this
        have hz1 : w.cell? ⟨gS, oS + j * 14 + 1, none⟩ = some (.int .u32 s.ob) := by have := hc 1 _ rfl; simpa [Nat.add_assoc] using this
        have hz2 : w.cell? ⟨gS, oS + j * 14 + 2, none⟩ = some (.int .u32 s.fe) := by have := hc 2 _ rfl; simpa [Nat.add_assoc] using this
        have hz3 : w.cell? ⟨gS, oS + j * 14 + 3, none⟩ = some (.int .u32 s.nu) := by have := hc 3 _ rfl; simpa [Nat.add_assoc] using this
        have hz4 : w.cell? ⟨gS, oS + j * 14 + 4, none⟩ = some (.int .u32 s.ti) := by have := hc 4 _ rfl; simpa [Nat.add_assoc] using this
        have hz5 : w.cell? ⟨gS, oS + j * 14 + 5, none⟩ = some (.int .i32 s.px) := by have := hc 5 _ rfl; simpa [Nat.add_assoc] using this
        have hz6 : w.cell? ⟨gS, oS + j * 14 + 6, none⟩ = some (.int .i32 s.py) := by have := hc 6 _ rfl; simpa [Nat.add_assoc] using this
        have hz7 : w.cell? ⟨gS, oS + j * 14 + 7, none⟩ = some (.int .u32 s.a0) := by have := hc 7 _ rfl; simpa [Nat.add_assoc] using this
        have hz8 : w.cell? ⟨gS, oS + j * 14 + 8, none⟩ = some (.int .u32 s.a1) := by have := hc 8 _ rfl; simpa [Nat.add_assoc] using this
        have hz9 : w.cell? ⟨gS, oS + j * 14 + 9, none⟩ = some (.int .u32 s.a2) := by have := hc 9 _ rfl; simpa [Nat.add_assoc] using this
        have hz10 : w.cell? ⟨gS, oS + j * 14 + 10, none⟩ = some (.int .i32 s.a3) := by have := hc 10 _ rfl; simpa [Nat.add_assoc] using this
        have hz11 : w.cell? ⟨gS, oS + j * 14 + 11, none⟩ = some (.int .i32 s.a4) := by have := hc 11 _ rfl; simpa [Nat.add_assoc] using this
        have hz12 : w.cell? ⟨gS, oS + j * 14 + 12, none⟩ = some (.float .f64 s.sp) := by have := hc 12 _ rfl; simpa [Nat.add_assoc] using this
        have hz13 : w.cell? ⟨gS, oS + j * 14 + 13, none⟩ = some (.slice s.up s.un s.uc) := by have := hc 13 _ rfl; simpa [Nat.add_assoc] using this
        clear hc hv hs hbi hnl
        by_cases h12 : s.kd = 12
        · rw [h12] at hz0
          have H12 := Lib.hid h12
          clear h12
          obtain ⟨vL, vF, Lw, hrb⟩ := HBI.out.st.rb
          obtain ⟨pL, cL, rfl⟩ := hrb.obs.out.form
          obtain ⟨nL, hnL⟩ : ∃ nL, nL = Lw.length := ⟨_, rfl⟩
          have hhd := hrb.hd
          unfold RfAt at hhd
          rw [← hnL] at hhd
          have HHD := Lib.hid hhd
          have hlen := HBI.out.st.kb.lens
          have HOB := Lib.hid (show (Firm M1 wr0 (fun W2 => ObS W2 (.slice pL nL cL) Lw ∧ ∀ (k : Nat) (x : RO) (o : VO), Lw[k]? = some x → V[k]? = some o → Is W2 x o)) ∧ nL = Lw.length ∧ Lw.length = V.length ∧ (∀ o ∈ V, o.ids.length ≤ 64) ∧ V.length ≤ 64 from ⟨fun W F => ⟨by rw [hnL]; exact hrb.obs W F, fun k x o hx ho => hrb.is k x o hx ho W F⟩, hnL, hrb.len, hlen.2.2.2.2, by omega⟩)
          have HROW := Lib.hid (And.intro HBI.out.row.own (show nl ≤ 1599289640401 by omega))
          rw [← HNL.out] at HROW
          have z0 := (HBI.out.fr.cell (a := ⟨gS, oS + j * 14, none⟩) hgS (by simp)).trans hz0
          clear hrb hnL hhd hlen
          go_wp2_with fail
          clear z0
          rw [← H12.out] at hz0
          refine region_tail (by kernel_rfl) (by kernel_rfl) [[], [], [1], [], [3], [3, 4], [3, 4, 5], [1, 2, 3, 4, 5, 6], [1, 2, 3, 4, 5, 6, 7], [0, 1, 2, 3, 4, 5, 6, 7, 8], [0, 1, 2, 3, 4, 5, 6, 7, 8, 9]] (by kernel_rfl) 9 (by decide) (by kernel_rfl) [.is (.slice pl nl cl), .is (.pointer (some ⟨k, 0, none⟩)), .allK wr0.heap.size V, .is (.pointer (some ⟨kr, 0, none⟩)), .is (.pointer (some ⟨kr, 0, none⟩)), .is (.pointer (some ⟨kr, 2, none⟩)), .is (.slice pL nL cL), .keptK wr0.heap.size nL cL pL V, .oneK wr0.heap.size nL cL pL V] 124 rfl (by kernel_rfl) ?_ ?_
          · intro q a1 W1 i hi hnq hd hG K hK
            have hlt : i < 9 := hi
            have hc : i = 0 ∨ i = 1 ∨ i = 2 ∨ i = 3 ∨ i = 4 ∨ i = 5 ∨ i = 6 ∨ i = 7 ∨ i = 8 := by omega
            rcases hc with rfl | rfl | rfl | rfl | rfl | rfl | rfl | rfl | rfl
            · have e10 := hG.yet 124 (by kernel_rfl) 10 10 (by decide) rfl (fun h => hnq (hG.closed 10 h _ rfl ⟨0, .phase⟩ (by simp) rfl))
              refine op_do rfl (wanted_none rfl) hK (fun K' hK' => ?_)
              unfold Oper.wp
              go_simp
              exact hK' _ _ (Fr.refl _ _) rfl
            · have e7 := hG.old 7 (by kernel_rfl)
              refine op_do rfl (wanted_none rfl) hK (fun K' hK' => ?_)
              unfold Oper.wp
              go_simp
              exact hK' _ _ (Fr.refl _ _) rfl
            · have e52 := hG.val (v := .pointer (some ⟨k, 0, none⟩)) 1 52 (hd _ rfl ⟨1, .data⟩ (by simp) rfl) rfl rfl
              refine op_do rfl (wanted_none rfl) hK (fun K' hK' => ?_)
              unfold Oper.wp
              go_simp
              refine (kball (HBI.out.st.kb.grow hG.grown)).mono ?_
              rintro e W2 hA
              obtain ⟨bl, v, L2, rfl, hh, f, hn8⟩ := hA.held
              exact hK' _ _ f ⟨bl, v, L2, rfl, hh, fun g hg => Nat.le_trans hG.grown.size (hn8 g hg)⟩
            · have e9 := hG.old 9 (by kernel_rfl)
              refine op_do rfl (wanted_none rfl) hK (fun K' hK' => ?_)
              unfold Oper.wp
              go_simp
              exact hK' _ _ (Fr.refl _ _) rfl
            · have e54 := hG.val (v := .pointer (some ⟨kr, 0, none⟩)) 3 54 (hd _ rfl ⟨3, .data⟩ (by simp) rfl) rfl rfl
              refine op_do rfl (wanted_none rfl) hK (fun K' hK' => ?_)
              unfold Oper.wp
              go_simp
              exact hK' _ _ (Fr.refl _ _) rfl
            · have e55 := hG.val (v := .pointer (some ⟨kr, 0, none⟩)) 4 55 (hd _ rfl ⟨4, .data⟩ (by simp) rfl) rfl rfl
              refine op_do rfl (wanted_none rfl) hK (fun K' hK' => ?_)
              unfold Oper.wp
              go_simp
              exact hK' _ _ (Fr.refl _ _) rfl
            · have e56 := hG.val (v := .pointer (some ⟨kr, 2, none⟩)) 5 56 (hd _ rfl ⟨5, .data⟩ (by simp) rfl) rfl rfl
              have cr := (hG.grown.blk HHD.out (by simp)).at 2 (v := .slice pL nL cL) rfl
              refine op_do rfl (wanted_none rfl) hK (fun K' hK' => ?_)
              unfold Oper.wp
              go_simp
              exact hK' _ _ (Fr.refl _ _) rfl
            · obtain ⟨u2, e53, s2⟩ := hG.get 2 53 (hd _ rfl ⟨2, .data⟩ (by simp) rfl) rfl
              have e57 := hG.val (v := .slice pL nL cL) 6 57 (hd _ rfl ⟨6, .data⟩ (by simp) rfl) rfl rfl
              obtain ⟨bl, v, L2, rfl, hh, hn8⟩ := s2
              refine op_do rfl (wanted_none rfl) hK (fun K' hK' => ?_)
              unfold Oper.wp
              go_simp
              exact hK' _ _ (Fr.refl _ _) ⟨bl, v, L2, rfl, hh, hn8⟩
            · obtain ⟨u7, e58, s7⟩ := hG.get 7 58 (hd _ rfl ⟨7, .data⟩ (by simp) rfl) rfl
              obtain ⟨bl, v, L2, rfl, hh, hn8⟩ := s7
              refine op_do rfl (wanted_none rfl) hK (fun K' hK' => ?_)
              unfold Oper.wp
              go_simp
              exact hK' _ _ ((Fr.refl _ _).alloc _) ⟨bl, v, L2, _, rfl, new_list W1 [.func (.func 111) #[] #[.pointer (some ⟨bl, 0, none⟩)], .slice pL nL cL] 129 _ rfl, by simp, hh.fr0 ((Fr.refl _ _).alloc _), hn8⟩
          · intro q a1 W1 hq hG
            have f1 := hG.grown
            obtain ⟨vs, hv, rfl⟩ := hG.front 124 rfl (by kernel_rfl) (by decide) hq [(0, 51), (1, 52), (2, 53), (3, 54), (4, 55), (5, 56), (6, 57), (7, 58), (8, 59)] (by kernel_rfl)
            clear hG hq
            have r0 : vs 0 = .slice pl nl cl := hv 0 51 (by decide) rfl
            have r1 : vs 1 = .pointer (some ⟨k, 0, none⟩) := hv 1 52 (by decide) rfl
            have r2 := hv 2 53 (by decide) rfl
            have r3 : vs 3 = .pointer (some ⟨kr, 0, none⟩) := hv 3 54 (by decide) rfl
            have r4 : vs 4 = .pointer (some ⟨kr, 0, none⟩) := hv 4 55 (by decide) rfl
            have r5 : vs 5 = .pointer (some ⟨kr, 2, none⟩) := hv 5 56 (by decide) rfl
            have r6 : vs 6 = .slice pL nL cL := hv 6 57 (by decide) rfl
            have r7 := hv 7 58 (by decide) rfl
            have r8 := hv 8 59 (by decide) rfl
            simp only [List.drop_succ_cons, List.drop_zero, lay, List.foldl_cons, List.foldl_nil, r0, r1, r3, r4, r5, r6]
            simp only [List.setIfInBounds_toArray, List.set_cons_zero, List.set_cons_succ]
            clear hv r0 r1 r3 r4 r5 r6
            generalize vs 2 = x2 at *
            generalize vs 7 = x7 at *
            generalize vs 8 = x8 at *
            clear vs
            obtain ⟨bl, v, L2, g8, rfl, hc8, hg8, hh, hn8⟩ := r8
            have HOW := Lib.hid (And.intro (own_fr HROW.out.1 f1 (by simp)) (And.intro hc8 HROW.out.2))
            have HMO := Lib.hid (fun (lv' : Value) (w4 : World) (happ : Appended W1 129 2 (.slice pl nl cl) (nl + 1) (κs.flatMap encKe ++ encKe ⟨bl, v, L2, V, pL, nL, cL, Lw⟩) lv' w4) => HBI.out.more (κ := ⟨bl, v, L2, V, pL, nL, cL, Lw⟩) f1 hn8 hh HOB.out.1 HOB.out.2.1 HOB.out.2.2.1 HOB.out.2.2.2.1 HOB.out.2.2.2.2 (by rw [← HNL.out]; exact happ))
            clear r2 r7 hc8 hg8 hh hn8 f1
            go_wp2_with (at_builtin; go_must (refine wpList_app _ rfl _ _ 117 rfl 129 (.agg #[.nilFunc, .slice none 0 0]) 2 32 Tryd.underlying117 infoKe rfl (by decide) (.slice pl nl cl) nl (κs.flatMap encKe) rfl HOW.out.1 ⟨g8, 0, none⟩ 1 1 (encKe ⟨bl, v, L2, V, pL, nL, cL, Lw⟩) rfl rfl HOW.out.2.1 (encKe_one _) (by have := HOW.out.2.2; unfold maxLen; omega) (by have := HOW.out.2.2; omega) ?_); intro v1 w4 happ; obtain ⟨p1, c1, rfl⟩ := own_form happ.own; have HB4 := Lib.hid (HMO.out _ _ happ); clear happ; have HA := Lib.hid (show Calls Tryd.prog 53 #[.pointer (some ⟨k, 0, none⟩), .pointer (some ⟨kr, 0, none⟩), .agg #[.int .i64 s.kd, .int .u32 s.ob, .int .u32 s.fe, .int .u32 s.nu, .int .u32 s.ti, .int .i32 s.px, .int .i32 s.py, .int .u32 s.a0, .int .u32 s.a1, .int .u32 s.a2, .int .i32 s.a3, .int .i32 s.a4, .float .f64 s.sp, .slice s.up s.un s.uc]] w4 (fun e w' => e = .returned (.bool true) ∧ Fr [] w4 w') from asks_any w4 _ _ k kr rO rN _ _ s HB4.out.st HSO.out.ob HSO.out.fe); have z0 := (HB4.out.fr.cell (a := ⟨gS, oS + j * 14, none⟩) hgS (by simp)).trans (by simpa using hz0); have z1 := (HB4.out.fr.cell (a := ⟨gS, oS + j * 14 + 1, none⟩) hgS (by simp)).trans (by simpa using hz1); have z2 := (HB4.out.fr.cell (a := ⟨gS, oS + j * 14 + 2, none⟩) hgS (by simp)).trans (by simpa using hz2); have z3 := (HB4.out.fr.cell (a := ⟨gS, oS + j * 14 + 3, none⟩) hgS (by simp)).trans (by simpa using hz3); have z4 := (HB4.out.fr.cell (a := ⟨gS, oS + j * 14 + 4, none⟩) hgS (by simp)).trans (by simpa using hz4); have z5 := (HB4.out.fr.cell (a := ⟨gS, oS + j * 14 + 5, none⟩) hgS (by simp)).trans (by simpa using hz5); have z6 := (HB4.out.fr.cell (a := ⟨gS, oS + j * 14 + 6, none⟩) hgS (by simp)).trans (by simpa using hz6); have z7 := (HB4.out.fr.cell (a := ⟨gS, oS + j * 14 + 7, none⟩) hgS (by simp)).trans (by simpa using hz7); have z8 := (HB4.out.fr.cell (a := ⟨gS, oS + j * 14 + 8, none⟩) hgS (by simp)).trans (by simpa using hz8); have z9 := (HB4.out.fr.cell (a := ⟨gS, oS + j * 14 + 9, none⟩) hgS (by simp)).trans (by simpa using hz9); have z10 := (HB4.out.fr.cell (a := ⟨gS, oS + j * 14 + 10, none⟩) hgS (by simp)).trans (by simpa using hz10); have z11 := (HB4.out.fr.cell (a := ⟨gS, oS + j * 14 + 11, none⟩) hgS (by simp)).trans (by simpa using hz11); have z12 := (HB4.out.fr.cell (a := ⟨gS, oS + j * 14 + 12, none⟩) hgS (by simp)).trans (by simpa using hz12); have z13 := (HB4.out.fr.cell (a := ⟨gS, oS + j * 14 + 13, none⟩) hgS (by simp)).trans (by simpa using hz13))
            (with_reducible refine (HA.out).mono ?_)
            rintro e w5 ⟨rfl, f5⟩
            have HB5 := Lib.hid (HB4.out.grow f5)
            clear HA f5 z0 z1 z2 z3 z4 z5 z6 z7 z8 z9 z10 z11 z12 z13
            have HC := Lib.hid (show Calls Tryd.prog 54 #[.pointer (some ⟨k, 0, none⟩), .pointer (some ⟨kr, 0, none⟩), .agg #[.int .i64 s.kd, .int .u32 s.ob, .int .u32 s.fe, .int .u32 s.nu, .int .u32 s.ti, .int .i32 s.px, .int .i32 s.py, .int .u32 s.a0, .int .u32 s.a1, .int .u32 s.a2, .int .i32 s.a3, .int .i32 s.a4, .float .f64 s.sp, .slice s.up s.un s.uc]] w5 (ChPost w5 _ _ k kr rO rN) from changes_any w5 _ _ k kr rO rN _ _ s HB5.out.st ⟨HSO.out.ob, HSO.out.fe, HSO.out.ti, HSO.out.px, HSO.out.py, HSO.out.a0, HSO.out.a2, HSO.out.a3, HSO.out.a4, HSO.out.ids.grow HB5.out.fr, HSO.out.un, HSO.out.iu, HSO.out.lim⟩ (fun W2 F2 => HSO.out.ids.grow (HB5.out.fr.trans F2 (fun x hx => .inr (HB5.out.mlow x hx)))))
            have z0 := (HB5.out.fr.cell (a := ⟨gS, oS + j * 14, none⟩) hgS (by simp)).trans (by simpa using hz0)
            have z1 := (HB5.out.fr.cell (a := ⟨gS, oS + j * 14 + 1, none⟩) hgS (by simp)).trans (by simpa using hz1)
            have z2 := (HB5.out.fr.cell (a := ⟨gS, oS + j * 14 + 2, none⟩) hgS (by simp)).trans (by simpa using hz2)
            have z3 := (HB5.out.fr.cell (a := ⟨gS, oS + j * 14 + 3, none⟩) hgS (by simp)).trans (by simpa using hz3)
            have z4 := (HB5.out.fr.cell (a := ⟨gS, oS + j * 14 + 4, none⟩) hgS (by simp)).trans (by simpa using hz4)
            have z5 := (HB5.out.fr.cell (a := ⟨gS, oS + j * 14 + 5, none⟩) hgS (by simp)).trans (by simpa using hz5)
            have z6 := (HB5.out.fr.cell (a := ⟨gS, oS + j * 14 + 6, none⟩) hgS (by simp)).trans (by simpa using hz6)
            have z7 := (HB5.out.fr.cell (a := ⟨gS, oS + j * 14 + 7, none⟩) hgS (by simp)).trans (by simpa using hz7)
            have z8 := (HB5.out.fr.cell (a := ⟨gS, oS + j * 14 + 8, none⟩) hgS (by simp)).trans (by simpa using hz8)
            have z9 := (HB5.out.fr.cell (a := ⟨gS, oS + j * 14 + 9, none⟩) hgS (by simp)).trans (by simpa using hz9)
            have z10 := (HB5.out.fr.cell (a := ⟨gS, oS + j * 14 + 10, none⟩) hgS (by simp)).trans (by simpa using hz10)
            have z11 := (HB5.out.fr.cell (a := ⟨gS, oS + j * 14 + 11, none⟩) hgS (by simp)).trans (by simpa using hz11)
            have z12 := (HB5.out.fr.cell (a := ⟨gS, oS + j * 14 + 12, none⟩) hgS (by simp)).trans (by simpa using hz12)
            have z13 := (HB5.out.fr.cell (a := ⟨gS, oS + j * 14 + 13, none⟩) hgS (by simp)).trans (by simpa using hz13)
            go_wp2_with fail
            (with_reducible refine (HC.out).mono ?_)
            rintro e w6 ⟨rfl, M6, N6, F6, V6, st6, f6, hM6, hN6, hMM6⟩
            have HB6 := Lib.hid ((HB5.out.chg st6 f6 hM6 hN6 hMM6).up (j := j + 1) (by omega))
            clear HC st6 f6 hM6 hN6 hMM6 z0 z1 z2 z3 z4 z5 z6 z7 z8 z9 z10 z11 z12 z13
            go_wp2_with fail
            exact ⟨⟨j + 1, _, _, _, _, _, by go_num, by omega, HB6.out⟩, by simp [intOf]; omega⟩
        · skip
          have HA := Lib.hid (show Calls Tryd.prog 53 #[.pointer (some ⟨k, 0, none⟩), .pointer (some ⟨kr, 0, none⟩), .agg #[.int .i64 s.kd, .int .u32 s.ob, .int .u32 s.fe, .int .u32 s.nu, .int .u32 s.ti, .int .i32 s.px, .int .i32 s.py, .int .u32 s.a0, .int .u32 s.a1, .int .u32 s.a2, .int .i32 s.a3, .int .i32 s.a4, .float .f64 s.sp, .slice s.up s.un s.uc]] wr0 (fun e w' => e = .returned (.bool true) ∧ Fr [] wr0 w') from asks_any wr0 _ _ k kr rO rN _ _ s HBI.out.st HSO.out.ob HSO.out.fe)
          have z0 := (HBI.out.fr.cell (a := ⟨gS, oS + j * 14, none⟩) hgS (by simp)).trans (by simpa using hz0)
          have z1 := (HBI.out.fr.cell (a := ⟨gS, oS + j * 14 + 1, none⟩) hgS (by simp)).trans (by simpa using hz1)
          have z2 := (HBI.out.fr.cell (a := ⟨gS, oS + j * 14 + 2, none⟩) hgS (by simp)).trans (by simpa using hz2)
          have z3 := (HBI.out.fr.cell (a := ⟨gS, oS + j * 14 + 3, none⟩) hgS (by simp)).trans (by simpa using hz3)
          have z4 := (HBI.out.fr.cell (a := ⟨gS, oS + j * 14 + 4, none⟩) hgS (by simp)).trans (by simpa using hz4)
          have z5 := (HBI.out.fr.cell (a := ⟨gS, oS + j * 14 + 5, none⟩) hgS (by simp)).trans (by simpa using hz5)
          have z6 := (HBI.out.fr.cell (a := ⟨gS, oS + j * 14 + 6, none⟩) hgS (by simp)).trans (by simpa using hz6)
          have z7 := (HBI.out.fr.cell (a := ⟨gS, oS + j * 14 + 7, none⟩) hgS (by simp)).trans (by simpa using hz7)
          have z8 := (HBI.out.fr.cell (a := ⟨gS, oS + j * 14 + 8, none⟩) hgS (by simp)).trans (by simpa using hz8)
          have z9 := (HBI.out.fr.cell (a := ⟨gS, oS + j * 14 + 9, none⟩) hgS (by simp)).trans (by simpa using hz9)
          have z10 := (HBI.out.fr.cell (a := ⟨gS, oS + j * 14 + 10, none⟩) hgS (by simp)).trans (by simpa using hz10)
          have z11 := (HBI.out.fr.cell (a := ⟨gS, oS + j * 14 + 11, none⟩) hgS (by simp)).trans (by simpa using hz11)
          have z12 := (HBI.out.fr.cell (a := ⟨gS, oS + j * 14 + 12, none⟩) hgS (by simp)).trans (by simpa using hz12)
          have z13 := (HBI.out.fr.cell (a := ⟨gS, oS + j * 14 + 13, none⟩) hgS (by simp)).trans (by simpa using hz13)
          go_wp2_with fail
          (with_reducible refine (HA.out).mono ?_)
          rintro e w5 ⟨rfl, f5⟩
          have HB5 := Lib.hid (HBI.out.grow f5)
          clear HA f5 z0 z1 z2 z3 z4 z5 z6 z7 z8 z9 z10 z11 z12 z13
          have HC := Lib.hid (show Calls Tryd.prog 54 #[.pointer (some ⟨k, 0, none⟩), .pointer (some ⟨kr, 0, none⟩), .agg #[.int .i64 s.kd, .int .u32 s.ob, .int .u32 s.fe, .int .u32 s.nu, .int .u32 s.ti, .int .i32 s.px, .int .i32 s.py, .int .u32 s.a0, .int .u32 s.a1, .int .u32 s.a2, .int .i32 s.a3, .int .i32 s.a4, .float .f64 s.sp, .slice s.up s.un s.uc]] w5 (ChPost w5 _ _ k kr rO rN) from changes_any w5 _ _ k kr rO rN _ _ s HB5.out.st ⟨HSO.out.ob, HSO.out.fe, HSO.out.ti, HSO.out.px, HSO.out.py, HSO.out.a0, HSO.out.a2, HSO.out.a3, HSO.out.a4, HSO.out.ids.grow HB5.out.fr, HSO.out.un, HSO.out.iu, HSO.out.lim⟩ (fun W2 F2 => HSO.out.ids.grow (HB5.out.fr.trans F2 (fun x hx => .inr (HB5.out.mlow x hx)))))
          have z0 := (HB5.out.fr.cell (a := ⟨gS, oS + j * 14, none⟩) hgS (by simp)).trans (by simpa using hz0)
          have z1 := (HB5.out.fr.cell (a := ⟨gS, oS + j * 14 + 1, none⟩) hgS (by simp)).trans (by simpa using hz1)
          have z2 := (HB5.out.fr.cell (a := ⟨gS, oS + j * 14 + 2, none⟩) hgS (by simp)).trans (by simpa using hz2)
          have z3 := (HB5.out.fr.cell (a := ⟨gS, oS + j * 14 + 3, none⟩) hgS (by simp)).trans (by simpa using hz3)
          have z4 := (HB5.out.fr.cell (a := ⟨gS, oS + j * 14 + 4, none⟩) hgS (by simp)).trans (by simpa using hz4)
          have z5 := (HB5.out.fr.cell (a := ⟨gS, oS + j * 14 + 5, none⟩) hgS (by simp)).trans (by simpa using hz5)
          have z6 := (HB5.out.fr.cell (a := ⟨gS, oS + j * 14 + 6, none⟩) hgS (by simp)).trans (by simpa using hz6)
          have z7 := (HB5.out.fr.cell (a := ⟨gS, oS + j * 14 + 7, none⟩) hgS (by simp)).trans (by simpa using hz7)
          have z8 := (HB5.out.fr.cell (a := ⟨gS, oS + j * 14 + 8, none⟩) hgS (by simp)).trans (by simpa using hz8)
          have z9 := (HB5.out.fr.cell (a := ⟨gS, oS + j * 14 + 9, none⟩) hgS (by simp)).trans (by simpa using hz9)
          have z10 := (HB5.out.fr.cell (a := ⟨gS, oS + j * 14 + 10, none⟩) hgS (by simp)).trans (by simpa using hz10)
          have z11 := (HB5.out.fr.cell (a := ⟨gS, oS + j * 14 + 11, none⟩) hgS (by simp)).trans (by simpa using hz11)
          have z12 := (HB5.out.fr.cell (a := ⟨gS, oS + j * 14 + 12, none⟩) hgS (by simp)).trans (by simpa using hz12)
          have z13 := (HB5.out.fr.cell (a := ⟨gS, oS + j * 14 + 13, none⟩) hgS (by simp)).trans (by simpa using hz13)
          go_wp2_with fail
          (with_reducible refine (HC.out).mono ?_)
          rintro e w6 ⟨rfl, M6, N6, F6, V6, st6, f6, hM6, hN6, hMM6⟩
          have HB6 := Lib.hid ((HB5.out.chg st6 f6 hM6 hN6 hMM6).up (j := j + 1) (by omega))
          clear HC st6 f6 hM6 hN6 hMM6 z0 z1 z2 z3 z4 z5 z6 z7 z8 z9 z10 z11 z12 z13
          go_wp2_with fail
          exact ⟨⟨j + 1, _, _, _, _, _, by go_num, by omega, HB6.out⟩, by simp [intOf]; omega⟩
      · obtain rfl : n = j := by omega
        clear hbi hnl
        have hnl6 : nl ≤ 1599289640401 := by omega
        go_wp2_with fail
        go_loopw [12] (fun i wr => ∃ jj : Nat, i = .int .i64 (jj : Nat) ∧ jj ≤ nl ∧ Fr [] wr0 wr) (fun i _ => nl - (intOf i).toNat)
        case atStart => exact ⟨0, rfl, Nat.zero_le _, Fr.refl _ _⟩
        case round =>
          obtain ⟨jj, rfl, hjj, hf⟩ := hrel
          obtain ⟨wi, hwi⟩ : ∃ wi : World, wi = wr := ⟨_, rfl⟩
          rw [← hwi] at hf ⊢
          clear hwi
          have HF := Lib.hid hf
          by_cases h2 : jj < nl
          · obtain ⟨κ, hκ⟩ : ∃ κ, κs[jj]? = some κ := ⟨_, List.getElem?_eq_getElem (by have := HNL.out; omega)⟩
            have hrow := RdF.of_own (by decide) (own_fr HBI.out.row.own hf (by simp)) (by have := HNL.out; unfold maxLen; omega)
            rw [HNL.out] at hrow
            obtain ⟨gK, oK, cK, hv, -, -, hc⟩ := RdF.at encKe encKe_len hrow hκ
            obtain ⟨rfl, -, -⟩ := Value.slice.inj hv
            have z0 : wi.cell? ⟨gK, oK + jj * 2, none⟩ = some (.func (.func 111) #[] #[.pointer (some ⟨κ.bl, 0, none⟩)]) := by have := hc 0 _ rfl; simpa [Nat.add_assoc] using this
            have z1 : wi.cell? ⟨gK, oK + jj * 2 + 1, none⟩ = some (.slice κ.pw κ.nw κ.cw) := by have := hc 1 _ rfl; simpa [Nat.add_assoc] using this
            have HC := Lib.hid (kept_tells ((HBI.out.kept κ (List.mem_of_getElem? hκ)).grow hf).out)
            have l0 : (0 : Int) ≤ (jj : Int) := by omega
            have l1 : (jj : Int) < (nl : Int) := by omega
            clear hrow hv hc hκ hf
            go_wp2_with fail
            (with_reducible refine (HC.out).mono ?_)
            rintro e w5 ⟨rfl, f5⟩
            have HF5 := Lib.hid f5
            clear f5 HC z0 z1
            go_wp2_with fail
            exact ⟨⟨jj + 1, by go_num, by omega, HF.out.trans HF5.out (by simp)⟩, by simp [intOf]; omega⟩
          · obtain rfl : nl = jj := by omega
            have HB3 := Lib.hid (HBI.out.grow hf)
            obtain ⟨vL, vF, Lw, hrb⟩ := HB3.out.st.rb
            obtain ⟨pF, cF, rfl⟩ := hrb.fen.out.form
            obtain ⟨nF, hnF⟩ : ∃ nF, nF = F.length := ⟨_, rfl⟩
            have hhd := hrb.hd
            unfold RfAt at hhd
            rw [← hnF] at hhd
            have hids := hrb.fen.out
            rw [← hnF] at hids
            have HFI := Lib.hid (And.intro hhd (And.intro hids hnF))
            have hF64 : nF ≤ 64 := by have := HB3.out.st.kb.lens; omega
            have HV64 := Lib.hid (show V.length ≤ 64 by have := HB3.out.st.kb.lens; omega)
            have c3 := hhd.at 3 (v := .slice pF nF cF) rfl
            clear hrb hhd hids hf hnF
            go_wp2_with fail
            clear c3
            go_loopw [13] (fun i wr => ∃ iq : Nat, i = .int .i64 (iq : Nat) ∧ iq ≤ nF ∧ Fr [] wi wr) (fun i _ => nF - (intOf i).toNat)
            case atStart => exact ⟨0, rfl, Nat.zero_le _, Fr.refl _ _⟩
            case round =>
              obtain ⟨iq, rfl, hq, hf⟩ := hrel
              obtain ⟨wq, hwq⟩ : ∃ wq : World, wq = wr := ⟨_, rfl⟩
              rw [← hwq] at hf ⊢
              clear hwq
              have HF3 := Lib.hid hf
              have hhd := hf.blk HFI.out.1 (by simp)
              have c3 := hhd.at 3 (v := .slice pF nF cF) rfl
              by_cases h3 : iq < nF
              · obtain ⟨f, hfF⟩ : ∃ f, F[iq]? = some f := ⟨_, List.getElem?_eq_getElem (by have := HFI.out.2.2; omega)⟩
                obtain ⟨gF, oF, cpF, hv, hcf⟩ := IdS.at (HFI.out.2.1.grow hf) hfF
                obtain ⟨rfl, -, -⟩ := Value.slice.inj hv
                have hu := HB3.out.st.kb.u32F f (List.mem_of_getElem? hfF)
                have HST := Lib.hid (HB3.out.grow hf).st
                have l0 : (0 : Int) ≤ (iq : Int) := by omega
                have l1 : (iq : Int) < (nF : Int) := by omega
                have hil : (insV V f).length ≤ 64 := by have := insV_len V f; have := HV64.out; omega
                clear hv hfF hf
                go_wp2_with fail
                clear c3
                refine region_grow (by kernel_rfl) (by kernel_rfl) [.is (.pointer (some ⟨k, 0, none⟩)), .is (.pointer (some ⟨kr, 0, none⟩)), .is (.pointer (some ⟨kr, 0, none⟩)), .is (.pointer (some ⟨kr, 3, none⟩)), .is (.slice (some ⟨gF, oF, none⟩) nF cF), .is (.int .i64 (iq : Nat)), .is (.pointer (some ⟨gF, oF + iq, none⟩)), .is (.int .u32 f), .idsv (insV V f), .is (.pointer (some ⟨kr, 0, none⟩)), .is (.pointer (some ⟨kr, 0, none⟩)), .is (.pointer (some ⟨kr, 0, none⟩)), .is (.pointer (some ⟨kr, 3, none⟩)), .is (.slice (some ⟨gF, oF, none⟩) nF cF), .is (.int .i64 (iq : Nat)), .is (.pointer (some ⟨gF, oF + iq, none⟩)), .is (.int .u32 f), .idsv (insV V f), .is (.bool true), .is (.bool false)] 124 rfl (by kernel_rfl) [(0, 100), (1, 101), (2, 102), (3, 103), (4, 104), (5, 105), (6, 106), (7, 107), (8, 108), (9, 109), (10, 110), (11, 111), (12, 112), (13, 113), (14, 114), (15, 115), (16, 116), (17, 117), (18, 118), (19, 119)] (by kernel_rfl) ?_ ?_
                · intro q a1 W1 i hi hnq hd hG K hK
                  have hlt : i < 20 := hi
                  have hc : i = 0 ∨ i = 1 ∨ i = 2 ∨ i = 3 ∨ i = 4 ∨ i = 5 ∨ i = 6 ∨ i = 7 ∨ i = 8 ∨ i = 9 ∨ i = 10 ∨ i = 11 ∨ i = 12 ∨ i = 13 ∨ i = 14 ∨ i = 15 ∨ i = 16 ∨ i = 17 ∨ i = 18 ∨ i = 19 := by omega
                  rcases hc with rfl | rfl | rfl | rfl | rfl | rfl | rfl | rfl | rfl | rfl | rfl | rfl | rfl | rfl | rfl | rfl | rfl | rfl | rfl | rfl
                  · have e7 := hG.old 7 (by kernel_rfl)
                    refine op_do rfl (wanted_none rfl) hK (fun K' hK' => ?_)
                    unfold Oper.wp
                    go_simp
                    exact hK' _ _ (Fr.refl _ _) rfl
                  · have e9 := hG.old 9 (by kernel_rfl)
                    refine op_do rfl (wanted_none rfl) hK (fun K' hK' => ?_)
                    unfold Oper.wp
                    go_simp
                    exact hK' _ _ (Fr.refl _ _) rfl
                  · have e101 := hG.val (v := .pointer (some ⟨kr, 0, none⟩)) 1 101 (hd _ rfl ⟨1, .data⟩ (by simp) rfl) rfl rfl
                    refine op_do rfl (wanted_none rfl) hK (fun K' hK' => ?_)
                    unfold Oper.wp
                    go_simp
                    exact hK' _ _ (Fr.refl _ _) rfl
                  · have e102 := hG.val (v := .pointer (some ⟨kr, 0, none⟩)) 2 102 (hd _ rfl ⟨2, .data⟩ (by simp) rfl) rfl rfl
                    refine op_do rfl (wanted_none rfl) hK (fun K' hK' => ?_)
                    unfold Oper.wp
                    go_simp
                    exact hK' _ _ (Fr.refl _ _) rfl
                  · have e103 := hG.val (v := .pointer (some ⟨kr, 3, none⟩)) 3 103 (hd _ rfl ⟨3, .data⟩ (by simp) rfl) rfl rfl
                    have ck := (hG.grown.blk hhd (by simp)).at 3 (v := .slice (some ⟨gF, oF, none⟩) nF cF) rfl
                    refine op_do rfl (wanted_none rfl) hK (fun K' hK' => ?_)
                    unfold Oper.wp
                    go_simp
                    exact hK' _ _ (Fr.refl _ _) rfl
                  · have e13 := hG.old 13 (by kernel_rfl)
                    refine op_do rfl (wanted_none rfl) hK (fun K' hK' => ?_)
                    unfold Oper.wp
                    go_simp
                    exact hK' _ _ (Fr.refl _ _) rfl
                  · have e104 := hG.val (v := .slice (some ⟨gF, oF, none⟩) nF cF) 4 104 (hd _ rfl ⟨4, .data⟩ (by simp) rfl) rfl rfl
                    have e105 := hG.val (v := .int .i64 (iq : Nat)) 5 105 (hd _ rfl ⟨5, .data⟩ (by simp) rfl) rfl rfl
                    refine op_do rfl (wanted_none rfl) hK (fun K' hK' => ?_)
                    unfold Oper.wp
                    go_simp
                    exact hK' _ _ (Fr.refl _ _) rfl
                  · have e106 := hG.val (v := .pointer (some ⟨gF, oF + iq, none⟩)) 6 106 (hd _ rfl ⟨6, .data⟩ (by simp) rfl) rfl rfl
                    have cf := (hG.grown.cell (a := ⟨gF, oF + iq, none⟩) (World.block_lt_of_cell? wq _ hcf) (by simp)).trans hcf
                    refine op_do rfl (wanted_none rfl) hK (fun K' hK' => ?_)
                    unfold Oper.wp
                    go_simp
                    exact hK' _ _ (Fr.refl _ _) rfl
                  · have e100 := hG.val (v := .pointer (some ⟨k, 0, none⟩)) 0 100 (hd _ rfl ⟨0, .data⟩ (by simp) rfl) rfl rfl
                    have e107 := hG.val (v := .int .u32 f) 7 107 (hd _ rfl ⟨7, .data⟩ (by simp) rfl) rfl rfl
                    refine op_do rfl (wanted_none rfl) hK (fun K' hK' => ?_)
                    unfold Oper.wp
                    go_simp
                    refine (kbinside f (HST.out.kb.grow hG.grown) hu).mono ?_
                    rintro e W2 ⟨v, rfl, hr⟩
                    obtain ⟨p, c, rfl⟩ := hr.form
                    exact hK' _ _ hr.fr ⟨p, c, rfl, IdS.of_new hr (by unfold maxLen; omega)⟩
                  · have e9 := hG.old 9 (by kernel_rfl)
                    refine op_do rfl (wanted_none rfl) hK (fun K' hK' => ?_)
                    unfold Oper.wp
                    go_simp
                    exact hK' _ _ (Fr.refl _ _) rfl
                  · have e9 := hG.old 9 (by kernel_rfl)
                    refine op_do rfl (wanted_none rfl) hK (fun K' hK' => ?_)
                    unfold Oper.wp
                    go_simp
                    exact hK' _ _ (Fr.refl _ _) rfl
                  · have e110 := hG.val (v := .pointer (some ⟨kr, 0, none⟩)) 10 110 (hd _ rfl ⟨10, .data⟩ (by simp) rfl) rfl rfl
                    refine op_do rfl (wanted_none rfl) hK (fun K' hK' => ?_)
                    unfold Oper.wp
                    go_simp
                    exact hK' _ _ (Fr.refl _ _) rfl
                  · have e111 := hG.val (v := .pointer (some ⟨kr, 0, none⟩)) 11 111 (hd _ rfl ⟨11, .data⟩ (by simp) rfl) rfl rfl
                    refine op_do rfl (wanted_none rfl) hK (fun K' hK' => ?_)
                    unfold Oper.wp
                    go_simp
                    exact hK' _ _ (Fr.refl _ _) rfl
                  · have e112 := hG.val (v := .pointer (some ⟨kr, 3, none⟩)) 12 112 (hd _ rfl ⟨12, .data⟩ (by simp) rfl) rfl rfl
                    have ck := (hG.grown.blk hhd (by simp)).at 3 (v := .slice (some ⟨gF, oF, none⟩) nF cF) rfl
                    refine op_do rfl (wanted_none rfl) hK (fun K' hK' => ?_)
                    unfold Oper.wp
                    go_simp
                    exact hK' _ _ (Fr.refl _ _) rfl
                  · have e13 := hG.old 13 (by kernel_rfl)
                    refine op_do rfl (wanted_none rfl) hK (fun K' hK' => ?_)
                    unfold Oper.wp
                    go_simp
                    exact hK' _ _ (Fr.refl _ _) rfl
                  · have e113 := hG.val (v := .slice (some ⟨gF, oF, none⟩) nF cF) 13 113 (hd _ rfl ⟨13, .data⟩ (by simp) rfl) rfl rfl
                    have e114 := hG.val (v := .int .i64 (iq : Nat)) 14 114 (hd _ rfl ⟨14, .data⟩ (by simp) rfl) rfl rfl
                    refine op_do rfl (wanted_none rfl) hK (fun K' hK' => ?_)
                    unfold Oper.wp
                    go_simp
                    exact hK' _ _ (Fr.refl _ _) rfl
                  · have e115 := hG.val (v := .pointer (some ⟨gF, oF + iq, none⟩)) 15 115 (hd _ rfl ⟨15, .data⟩ (by simp) rfl) rfl rfl
                    have cf := (hG.grown.cell (a := ⟨gF, oF + iq, none⟩) (World.block_lt_of_cell? wq _ hcf) (by simp)).trans hcf
                    refine op_do rfl (wanted_none rfl) hK (fun K' hK' => ?_)
                    unfold Oper.wp
                    go_simp
                    exact hK' _ _ (Fr.refl _ _) rfl
                  · have e109 := hG.val (v := .pointer (some ⟨kr, 0, none⟩)) 9 109 (hd _ rfl ⟨9, .data⟩ (by simp) rfl) rfl rfl
                    have e116 := hG.val (v := .int .u32 f) 16 116 (hd _ rfl ⟨16, .data⟩ (by simp) rfl) rfl rfl
                    refine op_do rfl (wanted_none rfl) hK (fun K' hK' => ?_)
                    unfold Oper.wp
                    go_simp
                    refine (rinside W1 _ kr rO rN F V f (HST.out.rb.grow hG.grown)).mono ?_
                    rintro e W2 ⟨v, rfl, hr⟩
                    obtain ⟨p, c, rfl⟩ := hr.form
                    exact hK' _ _ hr.fr ⟨p, c, rfl, IdS.of_new hr (by unfold maxLen; omega)⟩
                  · obtain ⟨u8, e108, s8⟩ := hG.get 8 108 (hd _ rfl ⟨8, .data⟩ (by simp) rfl) rfl
                    obtain ⟨u17, e117, s17⟩ := hG.get 17 117 (hd _ rfl ⟨17, .data⟩ (by simp) rfl) rfl
                    obtain ⟨p8, c8, rfl, h8⟩ := s8
                    obtain ⟨p9, c9, rfl, h9⟩ := s17
                    refine op_do rfl (wanted_none rfl) hK (fun K' hK' => ?_)
                    unfold Oper.wp
                    go_simp
                    refine (sameIds_any W1 p8 p9 _ c8 c9 (insV V f) rfl h8 h9 (by omega)).mono ?_
                    rintro e W2 ⟨rfl, f⟩
                    exact hK' _ _ f rfl
                  · have e118 := hG.val (v := .bool true) 18 118 (hd _ rfl ⟨18, .data⟩ (by simp) rfl) rfl rfl
                    refine op_do rfl (wanted_none rfl) hK (fun K' hK' => ?_)
                    unfold Oper.wp
                    go_simp
                    exact hK' _ _ (Fr.refl _ _) rfl
                · intro vs W1 f1 hv
                  have r0 : vs 0 = .pointer (some ⟨k, 0, none⟩) := hv 0 100 (by decide) rfl
                  have r1 : vs 1 = .pointer (some ⟨kr, 0, none⟩) := hv 1 101 (by decide) rfl
                  have r2 : vs 2 = .pointer (some ⟨kr, 0, none⟩) := hv 2 102 (by decide) rfl
                  have r3 : vs 3 = .pointer (some ⟨kr, 3, none⟩) := hv 3 103 (by decide) rfl
                  have r4 : vs 4 = .slice (some ⟨gF, oF, none⟩) nF cF := hv 4 104 (by decide) rfl
                  have r5 : vs 5 = .int .i64 (iq : Nat) := hv 5 105 (by decide) rfl
                  have r6 : vs 6 = .pointer (some ⟨gF, oF + iq, none⟩) := hv 6 106 (by decide) rfl
                  have r7 : vs 7 = .int .u32 f := hv 7 107 (by decide) rfl
                  have r8 := hv 8 108 (by decide) rfl
                  have r9 : vs 9 = .pointer (some ⟨kr, 0, none⟩) := hv 9 109 (by decide) rfl
                  have r10 : vs 10 = .pointer (some ⟨kr, 0, none⟩) := hv 10 110 (by decide) rfl
                  have r11 : vs 11 = .pointer (some ⟨kr, 0, none⟩) := hv 11 111 (by decide) rfl
                  have r12 : vs 12 = .pointer (some ⟨kr, 3, none⟩) := hv 12 112 (by decide) rfl
                  have r13 : vs 13 = .slice (some ⟨gF, oF, none⟩) nF cF := hv 13 113 (by decide) rfl
                  have r14 : vs 14 = .int .i64 (iq : Nat) := hv 14 114 (by decide) rfl
                  have r15 : vs 15 = .pointer (some ⟨gF, oF + iq, none⟩) := hv 15 115 (by decide) rfl
                  have r16 : vs 16 = .int .u32 f := hv 16 116 (by decide) rfl
                  have r17 := hv 17 117 (by decide) rfl
                  have r18 : vs 18 = .bool true := hv 18 118 (by decide) rfl
                  have r19 : vs 19 = .bool false := hv 19 119 (by decide) rfl
                  simp only [lay, List.foldl_cons, List.foldl_nil, r0, r1, r2, r3, r4, r5, r6, r7, r9, r10, r11, r12, r13, r14, r15, r16, r18, r19]
                  simp only [List.setIfInBounds_toArray, List.set_cons_zero, List.set_cons_succ]
                  clear hv r0 r1 r2 r3 r4 r5 r6 r7 r9 r10 r11 r12 r13 r14 r15 r16 r18 r19
                  generalize vs 8 = x8 at *
                  generalize vs 17 = x17 at *
                  have HF1 := Lib.hid f1
                  clear r8 r17 f1 hhd hcf
                  go_wp2_with fail
                  exact ⟨⟨iq + 1, by go_num, by omega, HF3.out.trans HF1.out (by simp)⟩, by simp [intOf]; omega⟩
              · obtain rfl : nF = iq := by omega
                have HST := Lib.hid (HB3.out.grow hf)
                have HA := Lib.hid (show Calls Tryd.prog 53 #[.pointer (some ⟨k, 0, none⟩), .pointer (some ⟨kr, 0, none⟩), .agg #[.int .i64 11, .int .u32 0, .int .u32 0, .int .u32 0, .int .u32 0, .int .i32 0, .int .i32 0, .int .u32 0, .int .u32 0, .int .u32 0, .int .i32 0, .int .i32 0, .float .f64 0, .slice none 0 0]] wq (fun e w' => e = .returned (.bool true) ∧ Fr [] wq w') from asks_any wq _ _ k kr rO rN _ _ ⟨11, 0, 0, 0, 0, 0, 0, 0, 0, 0, 0, 0, 0, none, 0, 0, []⟩ HST.out.st ⟨by decide, by decide⟩ ⟨by decide, by decide⟩)
                clear hf hhd
                go_wp2_with fail
                (with_reducible refine (HA.out).mono ?_)
                rintro e w5 ⟨rfl, f5⟩
                have HF5 := Lib.hid f5
                clear f5 HA c3
                go_wp2_with fail
                exact bodyPost_ret (v := .bool true) (by simp [results, Tryd.results9, go_sem]) rfl ⟨rfl, HST.out.fr.trans HF5.out (by simp)⟩
end Go.Proofs.YtgoolkgjcmdilaaDoor
end
