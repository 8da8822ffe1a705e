/-
  ScriptParses: the walk. Printed by genPz.py.
-/
import Derived.Test.YtbpgpjibljgiiaaGreatDoorRpC
import Derived.Test.YtbpgpjibljgiiaaGreatDoorRpM
import Derived.Test.YtbpgpjibljgiiaaGreatDoorIsM
import Derived.Test.YtbpgpjibljgiiaaGreatDoorSpM
import Derived.Test.YtbpgpjibljgiiaaGreatDoorPrW
namespace Go.Proofs.YtbpgpjibljgiiaaGreatDoor
open Go.RowKit
set_option linter.unusedVariables false
set_option linter.unusedSimpArgs false
attribute [local go_sem] Oper.semAt_some
attribute [local go_sem ↓] loadVar29 storeVar29 loadVar26 storeVar33
attribute [local go_sem] run_loadScr run_storeScr run_storeFt
namespace Sc
end Sc
def loadFt (a : Addr) : Sem Value := loadVar 33 a
theorem loadVar33 (a : Addr) : loadVar 33 a = loadFt a := rfl
attribute [local go_sem ↓] loadVar33
namespace Sc
set_option maxRecDepth 100000
set_option maxHeartbeats 4000000
theorem ft_load {W : World} {g : Nat} {a b c : Value} {t : TypeId} (h : Blk W g #[a, b, c] t) : (loadFt ⟨g, 0, none⟩).run Tryz.prog W = .ok (.agg #[a, b, c]) W := by
  refine run_loadVar_mid (P := Tryz.prog) W g 0 33 [a, b, c] _ (fun j v hv => ?_) Tryz.underlying33 rfl info33
  exact (by simpa using h.at j (v := v) (by simpa using hv))
theorem neq_cfg (W : World) (v0 v1 v2 v3 v4 v5 v6 v7 v8 v9 v10 : Int) : (binOp .neq 23 (.agg #[.int .i64 v0, .int .i64 v1, .int .i64 v2, .int .i64 v3, .int .i64 v4, .int .i64 v5, .int .i64 v6, .int .i64 v7, .int .i64 v8, .int .i64 v9, .int .i64 v10]) (.agg #[.int .i64 v0, .int .i64 v1, .int .i64 v2, .int .i64 v3, .int .i64 v4, .int .i64 v5, .int .i64 v6, .int .i64 v7, .int .i64 v8, .int .i64 v9, .int .i64 v10])).run Tryz.prog W = .ok (.bool false) W := by
  go_simp
theorem rparse_long (w : World) (t : ByteArray) (h : 4194304 < t.size) : Calls Tryz.prog 5 #[.string t] w fun e w' => RParQ w.heap.size w (parseP t) e w' := by
  have hR : parseP t = .error (0, 0, 4) := by unfold parseP; rw [if_pos h]
  rw [hR]
  have k1 : (4194304 : Int) < (t.size : Int) := by omega
  obtain ⟨rb, hrb⟩ : ∃ rb, rb = w.heap.size := ⟨_, rfl⟩
  obtain ⟨fb, hfb⟩ : ∃ fb, fb = w.heap.size + 1 := ⟨_, rfl⟩
  obtain ⟨w1, hw1⟩ : ∃ w1, (w.alloc (.cells #[.int .i64 0, .int .i64 0, .int .i64 0, .int .i64 0, .int .i64 0, .int .i64 0, .int .i64 0, .int .i64 0, .int .i64 0, .int .i64 0, .int .i64 0, .slice none 0 0] 26)).alloc (.cells #[.int .i64 0, .int .i64 0, .int .i64 0] 33) = w1 := ⟨_, rfl⟩
  have hr1 : Blk w1 rb zeroScr 26 := by rw [← hw1]; exact (Blk.new_at hrb _ _).alloc _
  have hf1 : Blk w1 fb #[.int .i64 0, .int .i64 0, .int .i64 0] 33 := by rw [← hw1]; exact Blk.new_at (by simp; omega) _ _
  have f1 : Fr [] w w1 := by rw [← hw1]; exact ((Fr.refl _ _).alloc _).alloc _
  obtain ⟨b1, b2, b3, b4⟩ := bad_boxes (a := .int .i64 0) (b := .int .i64 0) (c := .int .i64 4) hr1 hf1 f1 (by omega) (by omega)
  have q1 := hr1.can12 rfl
  have zo := scrOk_zero
  have q2 : can3 (layA w1 rb #[.int .i64 0, .int .i64 0, .int .i64 0, .int .i64 0, .int .i64 0, .int .i64 0, .int .i64 0, .int .i64 0, .int .i64 0, .int .i64 0, .int .i64 0, .slice none 0 0]) fb = true := b1
  have fo : ftOk #[.int .i64 0, .int .i64 0, .int .i64 4] = true := ftOk3 _ _ _
  obtain ⟨wz, hwz⟩ : ∃ wz, layA (layA w1 rb #[.int .i64 0, .int .i64 0, .int .i64 0, .int .i64 0, .int .i64 0, .int .i64 0, .int .i64 0, .int .i64 0, .int .i64 0, .int .i64 0, .int .i64 0, .slice none 0 0]) fb #[.int .i64 0, .int .i64 0, .int .i64 4] = wz := ⟨_, rfl⟩
  have HWZ := Lib.hid hwz
  have HZ := Lib.hid (show Blk wz rb zeroScr 26 ∧ Blk wz fb #[.int .i64 0, .int .i64 0, .int .i64 4] 33 ∧ Fr [] w wz from by rw [← hwz]; exact ⟨b2, b3, b4⟩)
  have HW1 := Lib.hid (And.intro hw1 (And.intro hrb hfb))
  clear b1 b2 b3 b4 hwz hr1 hf1 f1 hw1 hrb hfb hR
  go_enter Tryz.func5, Tryz.ntmps5
  go_upto_region 1 with fail
  rw [HW1.out.1, ← HW1.out.2.2, ← HW1.out.2.1]
  go_wp2
  rw [HWZ.out]
  exact bodyPost_ret (results_two rfl _ _ rb fb _ _ _ _ rfl rfl (HZ.out.1.scr rfl) HZ.out.2.1) rfl (RParQ.bad (l := 0) (a := 0) rfl HZ.out.2.2)
theorem rparse_any (w : World) (t : ByteArray) : Calls Tryz.prog 5 #[.string t] w fun e w' => RParQ w.heap.size w (parseP t) e w' := by
  by_cases h : 4194304 < t.size
  · exact rparse_long w t h
  · exact rparse_go w t (by omega)
set_option maxRecDepth 100000 in
set_option maxHeartbeats 16000000 in
theorem parses_bad (w : World) (t : ByteArray) (m : Int) (hm : w.cell? ⟨1, 0, none⟩ = some (.int .i64 m)) (hg : w.cell? ⟨0, 0, none⟩ = some errTy) (l a : Nat) (c : Int) (hp : parseP t = .error (l, a, c)) :
    Calls Tryz.prog 3 #[.string t] w fun e w' => e = .returned (.bool true) ∧ Fr [] w w' := by
  have HM := Lib.hid (show ∀ W, Fr [] w W → W.cell? ⟨0, 0, none⟩ = some errTy from fun W f => (f.cell (World.block_lt_of_cell? w _ hg) (by simp)).trans hg)
  have HPA := Lib.hid (parse_any w t m hm)
  rw [hp] at HPA
  have HRA := Lib.hid (fun W => show Calls Tryz.prog 5 #[.string t] W fun e w' => e = .returned (.tuple #[.agg #[.int .i64 0, .int .i64 0, .int .i64 0, .int .i64 0, .int .i64 0, .int .i64 0, .int .i64 0, .int .i64 0, .int .i64 0, .int .i64 0, .int .i64 0, .slice none 0 0], .agg #[.int .i64 l, .int .i64 a, .int .i64 c]]) ∧ Fr [] W w' from by
    have := rparse_any W t
    rw [hp] at this
    exact this)
  have HC := Lib.hid (show c ≠ 0 from parse_code hp)
  have zc : (c != 0) = true := by rw [bne_iff_ne]; exact HC.out
  clear hm hg hp
  go_enter Tryz.func3, Tryz.ntmps3
  go_wp2_with fail
  (with_reducible refine HPA.out.mono ?_)
  rintro e w1 ⟨fb, rfl, hfb, -, f1⟩
  have H1 := Lib.hid (And.intro hfb f1)
  unfold zeroScr
  clear hfb f1
  obtain ⟨ga, hga⟩ : ∃ g, g = w1.heap.size := ⟨_, rfl⟩
  have hz := Blk.new_at hga #[.int .i64 0, .int .i64 0, .int .i64 0, .int .i64 0, .int .i64 0, .int .i64 0, .int .i64 0, .int .i64 0, .int .i64 0, .int .i64 0, .int .i64 0, .slice none 0 0] 26
  have q1 := hz.can12 rfl
  rw [hga] at q1
  have zo : scrOk #[.int .i64 0, .int .i64 0, .int .i64 0, .int .i64 0, .int .i64 0, .int .i64 0, .int .i64 0, .int .i64 0, .int .i64 0, .int .i64 0, .int .i64 0, .slice none 0 0] = true := scrOk_zero
  obtain ⟨w2, hwn⟩ : ∃ wn, layA (w1.alloc (.cells #[.int .i64 0, .int .i64 0, .int .i64 0, .int .i64 0, .int .i64 0, .int .i64 0, .int .i64 0, .int .i64 0, .int .i64 0, .int .i64 0, .int .i64 0, .slice none 0 0] 26)) w1.heap.size #[.int .i64 0, .int .i64 0, .int .i64 0, .int .i64 0, .int .i64 0, .int .i64 0, .int .i64 0, .int .i64 0, .int .i64 0, .int .i64 0, .int .i64 0, .slice none 0 0] = wn := ⟨_, rfl⟩
  have hbn : Blk w2 ga #[.int .i64 0, .int .i64 0, .int .i64 0, .int .i64 0, .int .i64 0, .int .i64 0, .int .i64 0, .int .i64 0, .int .i64 0, .int .i64 0, .int .i64 0, .slice none 0 0] 26 := by rw [← hwn, ← hga]; exact hz.layA rfl _ rfl
  have hfn : Fr [] w1 w2 := by rw [← hwn]; exact ((Fr.refl [] w1).alloc _).layA _ _ (.inr (Nat.le_refl _))
  have HBga := Lib.hid (And.intro hbn hfn)
  have HGga := Lib.hid hga
  have HWga := Lib.hid hwn
  clear hz hbn hfn hwn hga
  go_upto_region 2 with fail
  rw [HWga.out, ← HGga.out]
  clear q1 zo
  have H2 := Lib.hid (show Blk w2 fb #[.int .i64 l, .int .i64 a, .int .i64 c] 43 ∧ Fr [] w w2 from ⟨HBga.out.2.blk H1.out.1 (by simp), H1.out.2.trans HBga.out.2 (by simp)⟩)
  go_wp2_with fail
  (with_reducible refine (HRA.out w2).mono ?_)
  rintro e w3 ⟨rfl, f3⟩
  have H3 := Lib.hid (show Blk w3 fb #[.int .i64 l, .int .i64 a, .int .i64 c] 43 ∧ Fr [] w w3 ∧ Blk w3 ga #[.int .i64 0, .int .i64 0, .int .i64 0, .int .i64 0, .int .i64 0, .int .i64 0, .int .i64 0, .int .i64 0, .int .i64 0, .int .i64 0, .int .i64 0, .slice none 0 0] 26 from ⟨f3.blk H2.out.1 (by simp), H2.out.2.trans f3 (by simp), f3.blk HBga.out.1 (by simp)⟩)
  clear f3
  obtain ⟨gb, hgb⟩ : ∃ g, g = w3.heap.size := ⟨_, rfl⟩
  obtain ⟨fx, hfx⟩ : ∃ g, g = w3.heap.size + 1 := ⟨_, rfl⟩
  obtain ⟨wa, hwa⟩ : ∃ wa, (w3.alloc (.cells #[.int .i64 0, .int .i64 0, .int .i64 0, .int .i64 0, .int .i64 0, .int .i64 0, .int .i64 0, .int .i64 0, .int .i64 0, .int .i64 0, .int .i64 0, .slice none 0 0] 26)).alloc (.cells #[.int .i64 0, .int .i64 0, .int .i64 0] 33) = wa := ⟨_, rfl⟩
  have hga : Blk wa gb #[.int .i64 0, .int .i64 0, .int .i64 0, .int .i64 0, .int .i64 0, .int .i64 0, .int .i64 0, .int .i64 0, .int .i64 0, .int .i64 0, .int .i64 0, .slice none 0 0] 26 := by rw [← hwa]; exact (Blk.new_at hgb _ _).alloc _
  have hfa : Blk wa fx #[.int .i64 0, .int .i64 0, .int .i64 0] 33 := by rw [← hwa]; exact Blk.new_at (by simp; omega) _ _
  have fwa : Fr [] w3 wa := by rw [← hwa]; exact ((Fr.refl _ _).alloc _).alloc _
  have hnab : gb ≠ fx := by omega
  have kl2 : Blk (layA wa gb #[.int .i64 0, .int .i64 0, .int .i64 0, .int .i64 0, .int .i64 0, .int .i64 0, .int .i64 0, .int .i64 0, .int .i64 0, .int .i64 0, .int .i64 0, .slice none 0 0]) fx #[.int .i64 0, .int .i64 0, .int .i64 0] 33 := hfa.lay_other (Ne.symm hnab)
  have q1 := hga.can12 rfl
  have q2 := kl2.can3 rfl
  rw [← hwa] at q1 q2
  rw [hgb] at q1 q2
  rw [hfx] at q2
  have zo : scrOk #[.int .i64 0, .int .i64 0, .int .i64 0, .int .i64 0, .int .i64 0, .int .i64 0, .int .i64 0, .int .i64 0, .int .i64 0, .int .i64 0, .int .i64 0, .slice none 0 0] = true := scrOk_zero
  have fo : ftOk #[.int .i64 l, .int .i64 a, .int .i64 c] = true := ftOk3 _ _ _
  obtain ⟨w4, hwn⟩ : ∃ wn, layA (layA ((w3.alloc (.cells #[.int .i64 0, .int .i64 0, .int .i64 0, .int .i64 0, .int .i64 0, .int .i64 0, .int .i64 0, .int .i64 0, .int .i64 0, .int .i64 0, .int .i64 0, .slice none 0 0] 26)).alloc (.cells #[.int .i64 0, .int .i64 0, .int .i64 0] 33)) w3.heap.size #[.int .i64 0, .int .i64 0, .int .i64 0, .int .i64 0, .int .i64 0, .int .i64 0, .int .i64 0, .int .i64 0, .int .i64 0, .int .i64 0, .int .i64 0, .slice none 0 0]) (w3.heap.size + 1) #[.int .i64 l, .int .i64 a, .int .i64 c] = wn := ⟨_, rfl⟩
  have hwn2 : layA (layA wa gb #[.int .i64 0, .int .i64 0, .int .i64 0, .int .i64 0, .int .i64 0, .int .i64 0, .int .i64 0, .int .i64 0, .int .i64 0, .int .i64 0, .int .i64 0, .slice none 0 0]) fx #[.int .i64 l, .int .i64 a, .int .i64 c] = w4 := by rw [← hwn, ← hwa, hgb, hfx]
  have HBgb := Lib.hid (show Blk w4 gb #[.int .i64 0, .int .i64 0, .int .i64 0, .int .i64 0, .int .i64 0, .int .i64 0, .int .i64 0, .int .i64 0, .int .i64 0, .int .i64 0, .int .i64 0, .slice none 0 0] 26 ∧ Blk w4 fx #[.int .i64 l, .int .i64 a, .int .i64 c] 33 ∧ Fr [] w3 w4 from by
    rw [← hwn2]
    exact ⟨(hga.layA rfl _ rfl).lay_other hnab, kl2.lay3 rfl _ rfl, (fwa.layA _ _ (.inr (by omega))).layA _ _ (.inr (by omega))⟩)
  have HGgb := Lib.hid (And.intro hgb hfx)
  have HWgb := Lib.hid hwn
  clear hga hfa fwa kl2 hwn hwn2 hwa hgb hfx hnab
  go_upto_region 3 with fail
  rw [HWgb.out, ← HGgb.out.2, ← HGgb.out.1]
  clear q1 q2 zo fo
  have H4 := Lib.hid (show Blk w4 fb #[.int .i64 l, .int .i64 a, .int .i64 c] 43 ∧ Fr [] w w4 ∧ Blk w4 ga #[.int .i64 0, .int .i64 0, .int .i64 0, .int .i64 0, .int .i64 0, .int .i64 0, .int .i64 0, .int .i64 0, .int .i64 0, .int .i64 0, .int .i64 0, .slice none 0 0] 26 from ⟨HBgb.out.2.2.blk H3.out.1 (by simp), H3.out.2.1.trans HBgb.out.2.2 (by simp), HBgb.out.2.2.blk H3.out.2.2 (by simp)⟩)
  have q3 := ft_load HBgb.out.2.1
  have HIS := Lib.hid (is_fault w4 fb l a c HC.out H4.out.1 (HM.out w4 H4.out.2.1))
  go_wp2_with fail
  (with_reducible refine HIS.out.mono ?_)
  rintro e w5 ⟨rfl, f5⟩
  clear q3
  have H5 := Lib.hid (show Fr [] w w5 ∧ Blk w5 ga #[.int .i64 0, .int .i64 0, .int .i64 0, .int .i64 0, .int .i64 0, .int .i64 0, .int .i64 0, .int .i64 0, .int .i64 0, .int .i64 0, .int .i64 0, .slice none 0 0] 26 ∧ Blk w5 gb #[.int .i64 0, .int .i64 0, .int .i64 0, .int .i64 0, .int .i64 0, .int .i64 0, .int .i64 0, .int .i64 0, .int .i64 0, .int .i64 0, .int .i64 0, .slice none 0 0] 26 ∧ Blk w5 fx #[.int .i64 l, .int .i64 a, .int .i64 c] 33 from ⟨H4.out.2.1.trans f5 (by simp), f5.blk H4.out.2.2 (by simp), f5.blk HBgb.out.1 (by simp), f5.blk HBgb.out.2.1 (by simp)⟩)
  clear f5
  have r1 := run_cfg w5 ga 0 0 0 0 0 0 0 0 0 0 0 _ 26 H5.out.2.1
  have r2 := run_cfg w5 gb 0 0 0 0 0 0 0 0 0 0 0 _ 26 H5.out.2.2.1
  have nq := neq_cfg w5 0 0 0 0 0 0 0 0 0 0 0
  have c1 : w5.cell? ⟨ga, 11, none⟩ = some (.slice none 0 0) := H5.out.2.1.at 11 rfl
  have c2 : w5.cell? ⟨gb, 11, none⟩ = some (.slice none 0 0) := H5.out.2.2.1.at 11 rfl
  have HSM := Lib.hid (same_any w5 (.slice none 0 0) (.slice none 0 0) [] [] ⟨⟨none, 0, rfl, Nat.le_refl _, .inl rfl⟩, by simp⟩ ⟨⟨none, 0, rfl, Nat.le_refl _, .inl rfl⟩, by simp⟩ (by simp) (by simp) (by simp) (by simp))
  rw [decide_eq_true rfl] at HSM
  go_wp2_with fail
  (with_reducible refine HSM.out.mono ?_)
  rintro e w6 ⟨rfl, f6⟩
  clear r1 r2 nq c1 c2
  have H6 := Lib.hid (show Fr [] w w6 from H5.out.1.trans f6 (by simp))
  have cx := (f6.blk H5.out.2.2.2 (by simp)).at 2 (v := .int .i64 c) rfl
  have r1 := run_cfg w6 ga 0 0 0 0 0 0 0 0 0 0 0 _ 26 (f6.blk H5.out.2.1 (by simp))
  have eq := eql_cfg w6 0 0 0 0 0 0 0 0 0 0 0
  have c1 : w6.cell? ⟨ga, 11, none⟩ = some (.slice none 0 0) := (f6.blk H5.out.2.1 (by simp)).at 11 rfl
  clear f6
  go_wp2
  go_ret
  exact ⟨rfl, H6.out⟩
set_option maxRecDepth 100000 in
set_option maxHeartbeats 16000000 in
theorem parses_good (w : World) (t : ByteArray) (m : Int) (hm : w.cell? ⟨1, 0, none⟩ = some (.int .i64 m)) (htb : TB w) (v0 v1 v2 v3 v4 v5 v6 v7 v8 v9 v10 : Int) (L : List St) (hp : parseP t = .ok ([v0, v1, v2, v3, v4, v5, v6, v7, v8, v9, v10], L)) :
    Calls Tryz.prog 3 #[.string t] w fun e w' => e = .returned (.bool true) ∧ Fr [] w w' := by
  obtain ⟨-, hcfg, hsi, hpe, hpx, hck⟩ := print_parse hp
  obtain ⟨hl1, hl2⟩ := print_sizes hpe hck
  have HPA := Lib.hid (fun W (h : W.cell? ⟨1, 0, none⟩ = some (.int .i64 m)) => show Calls Tryz.prog 4 #[.string t] W fun e w' => ParQ W.heap.size W (.ok ([v0, v1, v2, v3, v4, v5, v6, v7, v8, v9, v10], L)) e w' from by rw [← hp]; exact parse_any W t m h)
  have HRA := Lib.hid (fun W => show Calls Tryz.prog 5 #[.string t] W fun e w' => RParQ W.heap.size W (.ok ([v0, v1, v2, v3, v4, v5, v6, v7, v8, v9, v10], L)) e w' from by rw [← hp]; exact rparse_any W t)
  have HTB := Lib.hid htb
  have HM := Lib.hid (And.intro hm (World.block_lt_of_cell? w _ hm))
  obtain ⟨N, hN⟩ : ∃ N, N = L.length := ⟨_, rfl⟩
  have HL := Lib.hid (show (∀ s ∈ L, StI s) ∧ L.length ≤ 65536 ∧ (∀ s ∈ L, s.by'.length ≤ 4194304) ∧ printE [v0, v1, v2, v3, v4, v5, v6, v7, v8, v9, v10] L = 0 ∧ printX [v0, v1, v2, v3, v4, v5, v6, v7, v8, v9, v10] L = t from ⟨hsi, hl1, hl2, hpe, hpx⟩)
  have HN := Lib.hid hN
  have HCF := Lib.hid hcfg
  have HIC := Lib.hid (show ∀ (C : List (St × Value)), C.map Prod.fst = L → (∀ x ∈ C, StI x.1) ∧ C.length ≤ 65536 ∧ (∀ x ∈ C, x.1.by'.length ≤ 4194304) from fun C h => ⟨fun x hx => hsi _ (by rw [← h]; exact List.mem_map_of_mem hx), by have := congrArg List.length h; rw [List.length_map] at this; omega, fun x hx => hl2 _ (by rw [← h]; exact List.mem_map_of_mem hx)⟩)
  have kN : (N : Int) ≤ 65536 := by omega
  clear hm htb hp hcfg hsi hpe hpx hck hl1 hl2 hN
  have HP0 := Lib.hid (HPA.out w HM.out.1)
  go_enter Tryz.func3, Tryz.ntmps3
  go_wp2_with fail
  (with_reducible refine HP0.out.mono ?_)
  rintro e w1 hq
  obtain ⟨p1, k1, C1, rfl, hm1, hv1, f1⟩ := hq.lit
  rw [← HN.out] at hv1 ⊢
  have H1 := Lib.hid (And.intro hm1 (And.intro hv1 f1))
  clear hq hm1 hv1 f1
  obtain ⟨ga, hga⟩ : ∃ g, g = w1.heap.size := ⟨_, rfl⟩
  have hz := Blk.new_at hga #[.int .i64 0, .int .i64 0, .int .i64 0, .int .i64 0, .int .i64 0, .int .i64 0, .int .i64 0, .int .i64 0, .int .i64 0, .int .i64 0, .int .i64 0, .slice none 0 0] 26
  have q1 := hz.can12 rfl
  rw [hga] at q1
  have zo : scrOk #[.int .i64 v0, .int .i64 v1, .int .i64 v2, .int .i64 v3, .int .i64 v4, .int .i64 v5, .int .i64 v6, .int .i64 v7, .int .i64 v8, .int .i64 v9, .int .i64 v10, .slice p1 N k1] = true := scrC_ok (cfg := [v0, v1, v2, v3, v4, v5, v6, v7, v8, v9, v10]) rfl rfl
  obtain ⟨w2, hwn⟩ : ∃ wn, layA (w1.alloc (.cells #[.int .i64 0, .int .i64 0, .int .i64 0, .int .i64 0, .int .i64 0, .int .i64 0, .int .i64 0, .int .i64 0, .int .i64 0, .int .i64 0, .int .i64 0, .slice none 0 0] 26)) w1.heap.size #[.int .i64 v0, .int .i64 v1, .int .i64 v2, .int .i64 v3, .int .i64 v4, .int .i64 v5, .int .i64 v6, .int .i64 v7, .int .i64 v8, .int .i64 v9, .int .i64 v10, .slice p1 N k1] = wn := ⟨_, rfl⟩
  have hbn : Blk w2 ga #[.int .i64 v0, .int .i64 v1, .int .i64 v2, .int .i64 v3, .int .i64 v4, .int .i64 v5, .int .i64 v6, .int .i64 v7, .int .i64 v8, .int .i64 v9, .int .i64 v10, .slice p1 N k1] 26 := by rw [← hwn, ← hga]; exact hz.layA rfl _ rfl
  have hfn : Fr [] w1 w2 := by rw [← hwn]; exact ((Fr.refl [] w1).alloc _).layA _ _ (.inr (Nat.le_refl _))
  have HBga := Lib.hid (And.intro hbn hfn)
  have HGga := Lib.hid hga
  have HWga := Lib.hid hwn
  clear hz hbn hfn hwn hga
  go_upto_region 2 with fail
  rw [HWga.out, ← HGga.out]
  clear q1 zo
  have H2 := Lib.hid (show Fr [] w1 w2 from HBga.out.2)
  go_wp2_with fail
  (with_reducible refine (HRA.out w2).mono ?_)
  rintro e w3 hq
  obtain ⟨p3, k3, C3, rfl, hm3, hv3, f3⟩ := hq.lit
  rw [← HN.out] at hv3 ⊢
  have H3 := Lib.hid (show C3.map Prod.fst = L ∧ StepsV w3 w2.heap.size (.slice p3 N k3) C3 ∧ Blk w3 ga #[.int .i64 v0, .int .i64 v1, .int .i64 v2, .int .i64 v3, .int .i64 v4, .int .i64 v5, .int .i64 v6, .int .i64 v7, .int .i64 v8, .int .i64 v9, .int .i64 v10, .slice p1 N k1] 26 ∧ Fr [] w1 w3 from ⟨hm3, hv3, f3.blk HBga.out.1 (by simp), H2.out.trans f3 (by simp)⟩)
  clear hq hm3 hv3 f3
  obtain ⟨gb, hgb⟩ : ∃ g, g = w3.heap.size := ⟨_, rfl⟩
  obtain ⟨fx, hfx⟩ : ∃ g, g = w3.heap.size + 1 := ⟨_, rfl⟩
  obtain ⟨wa, hwa⟩ : ∃ wa, (w3.alloc (.cells #[.int .i64 0, .int .i64 0, .int .i64 0, .int .i64 0, .int .i64 0, .int .i64 0, .int .i64 0, .int .i64 0, .int .i64 0, .int .i64 0, .int .i64 0, .slice none 0 0] 26)).alloc (.cells #[.int .i64 0, .int .i64 0, .int .i64 0] 33) = wa := ⟨_, rfl⟩
  have hga : Blk wa gb #[.int .i64 0, .int .i64 0, .int .i64 0, .int .i64 0, .int .i64 0, .int .i64 0, .int .i64 0, .int .i64 0, .int .i64 0, .int .i64 0, .int .i64 0, .slice none 0 0] 26 := by rw [← hwa]; exact (Blk.new_at hgb _ _).alloc _
  have hfa : Blk wa fx #[.int .i64 0, .int .i64 0, .int .i64 0] 33 := by rw [← hwa]; exact Blk.new_at (by simp; omega) _ _
  have fwa : Fr [] w3 wa := by rw [← hwa]; exact ((Fr.refl _ _).alloc _).alloc _
  have hnab : gb ≠ fx := by omega
  have kl2 : Blk (layA wa gb #[.int .i64 v0, .int .i64 v1, .int .i64 v2, .int .i64 v3, .int .i64 v4, .int .i64 v5, .int .i64 v6, .int .i64 v7, .int .i64 v8, .int .i64 v9, .int .i64 v10, .slice p3 N k3]) fx #[.int .i64 0, .int .i64 0, .int .i64 0] 33 := hfa.lay_other (Ne.symm hnab)
  have q1 := hga.can12 rfl
  have q2 := kl2.can3 rfl
  rw [← hwa] at q1 q2
  rw [hgb] at q1 q2
  rw [hfx] at q2
  have zo : scrOk #[.int .i64 v0, .int .i64 v1, .int .i64 v2, .int .i64 v3, .int .i64 v4, .int .i64 v5, .int .i64 v6, .int .i64 v7, .int .i64 v8, .int .i64 v9, .int .i64 v10, .slice p3 N k3] = true := scrC_ok (cfg := [v0, v1, v2, v3, v4, v5, v6, v7, v8, v9, v10]) rfl rfl
  have fo : ftOk #[.int .i64 0, .int .i64 0, .int .i64 0] = true := ftOk3 _ _ _
  obtain ⟨w4, hwn⟩ : ∃ wn, layA (layA ((w3.alloc (.cells #[.int .i64 0, .int .i64 0, .int .i64 0, .int .i64 0, .int .i64 0, .int .i64 0, .int .i64 0, .int .i64 0, .int .i64 0, .int .i64 0, .int .i64 0, .slice none 0 0] 26)).alloc (.cells #[.int .i64 0, .int .i64 0, .int .i64 0] 33)) w3.heap.size #[.int .i64 v0, .int .i64 v1, .int .i64 v2, .int .i64 v3, .int .i64 v4, .int .i64 v5, .int .i64 v6, .int .i64 v7, .int .i64 v8, .int .i64 v9, .int .i64 v10, .slice p3 N k3]) (w3.heap.size + 1) #[.int .i64 0, .int .i64 0, .int .i64 0] = wn := ⟨_, rfl⟩
  have hwn2 : layA (layA wa gb #[.int .i64 v0, .int .i64 v1, .int .i64 v2, .int .i64 v3, .int .i64 v4, .int .i64 v5, .int .i64 v6, .int .i64 v7, .int .i64 v8, .int .i64 v9, .int .i64 v10, .slice p3 N k3]) fx #[.int .i64 0, .int .i64 0, .int .i64 0] = w4 := by rw [← hwn, ← hwa, hgb, hfx]
  have HBgb := Lib.hid (show Blk w4 gb #[.int .i64 v0, .int .i64 v1, .int .i64 v2, .int .i64 v3, .int .i64 v4, .int .i64 v5, .int .i64 v6, .int .i64 v7, .int .i64 v8, .int .i64 v9, .int .i64 v10, .slice p3 N k3] 26 ∧ Blk w4 fx #[.int .i64 0, .int .i64 0, .int .i64 0] 33 ∧ Fr [] w3 w4 from by
    rw [← hwn2]
    exact ⟨(hga.layA rfl _ rfl).lay_other hnab, kl2.lay3 rfl _ rfl, (fwa.layA _ _ (.inr (by omega))).layA _ _ (.inr (by omega))⟩)
  have HGgb := Lib.hid (And.intro hgb hfx)
  have HWgb := Lib.hid hwn
  clear hga hfa fwa kl2 hwn hwn2 hwa hgb hfx hnab
  go_upto_region 3 with fail
  rw [HWgb.out, ← HGgb.out.2, ← HGgb.out.1]
  clear q1 q2 zo fo
  have H4 := Lib.hid (show Blk w4 ga #[.int .i64 v0, .int .i64 v1, .int .i64 v2, .int .i64 v3, .int .i64 v4, .int .i64 v5, .int .i64 v6, .int .i64 v7, .int .i64 v8, .int .i64 v9, .int .i64 v10, .slice p1 N k1] 26 ∧ Fr [] w1 w4 ∧ StepsV w4 w2.heap.size (.slice p3 N k3) C3 from ⟨HBgb.out.2.2.blk H3.out.2.2.1 (by simp), H3.out.2.2.2.trans HBgb.out.2.2 (by simp), H3.out.2.1.fr HBgb.out.2.2⟩)
  have q3 := ft_load HBgb.out.2.1
  have HIS := Lib.hid (is_none w4 0 0)
  go_wp2_with fail
  (with_reducible refine HIS.out.mono ?_)
  rintro e w5 ⟨rfl, f5⟩
  clear q3
  have H5 := Lib.hid (show Fr [] w1 w5 ∧ Blk w5 ga #[.int .i64 v0, .int .i64 v1, .int .i64 v2, .int .i64 v3, .int .i64 v4, .int .i64 v5, .int .i64 v6, .int .i64 v7, .int .i64 v8, .int .i64 v9, .int .i64 v10, .slice p1 N k1] 26 ∧ Blk w5 gb #[.int .i64 v0, .int .i64 v1, .int .i64 v2, .int .i64 v3, .int .i64 v4, .int .i64 v5, .int .i64 v6, .int .i64 v7, .int .i64 v8, .int .i64 v9, .int .i64 v10, .slice p3 N k3] 26 ∧ Blk w5 fx #[.int .i64 0, .int .i64 0, .int .i64 0] 33 ∧ StepsV w5 w2.heap.size (.slice p3 N k3) C3 from ⟨H4.out.2.1.trans f5 (by simp), f5.blk H4.out.1 (by simp), f5.blk HBgb.out.1 (by simp), f5.blk HBgb.out.2.1 (by simp), H4.out.2.2.fr f5⟩)
  clear f5
  have r1 := run_cfg w5 ga v0 v1 v2 v3 v4 v5 v6 v7 v8 v9 v10 _ 26 H5.out.2.1
  have r2 := run_cfg w5 gb v0 v1 v2 v3 v4 v5 v6 v7 v8 v9 v10 _ 26 H5.out.2.2.1
  have nq := neq_cfg w5 v0 v1 v2 v3 v4 v5 v6 v7 v8 v9 v10
  have c1 : w5.cell? ⟨ga, 11, none⟩ = some (.slice p1 N k1) := H5.out.2.1.at 11 rfl
  have c2 : w5.cell? ⟨gb, 11, none⟩ = some (.slice p3 N k3) := H5.out.2.2.1.at 11 rfl
  have HSM := Lib.hid (same_any w5 (.slice p1 N k1) (.slice p3 N k3) C1 C3 (H1.out.2.1.fr H5.out.1).rdT H5.out.2.2.2.2.rdT (by have := (HIC.out _ H1.out.1).2.1; omega) (by have := (HIC.out _ H3.out.1).2.1; omega) (fun x hx => ((HIC.out _ H1.out.1).1 x hx).2.2.2.2) (fun x hx => ((HIC.out _ H3.out.1).1 x hx).2.2.2.2))
  rw [decide_eq_true (H1.out.1.trans H3.out.1.symm)] at HSM
  go_wp2_with fail
  (with_reducible refine HSM.out.mono ?_)
  rintro e w6 ⟨rfl, f6⟩
  clear r1 r2 nq c1 c2
  have H6 := Lib.hid (show Fr [] w1 w6 ∧ Blk w6 ga #[.int .i64 v0, .int .i64 v1, .int .i64 v2, .int .i64 v3, .int .i64 v4, .int .i64 v5, .int .i64 v6, .int .i64 v7, .int .i64 v8, .int .i64 v9, .int .i64 v10, .slice p1 N k1] 26 ∧ Blk w6 gb #[.int .i64 v0, .int .i64 v1, .int .i64 v2, .int .i64 v3, .int .i64 v4, .int .i64 v5, .int .i64 v6, .int .i64 v7, .int .i64 v8, .int .i64 v9, .int .i64 v10, .slice p3 N k3] 26 ∧ Blk w6 fx #[.int .i64 0, .int .i64 0, .int .i64 0] 33 ∧ StepsV w6 w2.heap.size (.slice p3 N k3) C3 from ⟨H5.out.1.trans f6 (by simp), f6.blk H5.out.2.1 (by simp), f6.blk H5.out.2.2.1 (by simp), f6.blk H5.out.2.2.2.1 (by simp), H5.out.2.2.2.2.fr f6⟩)
  clear f6
  have cx := H6.out.2.2.2.1.at 2 (v := .int .i64 0) rfl
  have q5 : scr? w6 ga = some (.agg #[.int .i64 v0, .int .i64 v1, .int .i64 v2, .int .i64 v3, .int .i64 v4, .int .i64 v5, .int .i64 v6, .int .i64 v7, .int .i64 v8, .int .i64 v9, .int .i64 v10, .slice p1 N k1]) := H6.out.2.1.scr rfl
  have HPR := Lib.hid (print_any w6 w.heap.size v0 v1 v2 v3 v4 v5 v6 v7 v8 v9 v10 HCF.out (.slice p1 N k1) C1 (H1.out.2.1.fr H6.out.1) (HIC.out _ H1.out.1).1 (by have := (HIC.out _ H1.out.1).2.1; omega) (HTB.out.fr (H1.out.2.2.trans H6.out.1 (by simp)) (by simp)))
  rw [H1.out.1, HL.out.2.2.2.1, HL.out.2.2.2.2] at HPR
  go_wp2_with fail
  (with_reducible refine HPR.out.mono ?_)
  rintro e w7 ⟨rfl, f7⟩
  clear cx q5
  have H7 := Lib.hid (show Fr [] w1 w7 ∧ Blk w7 ga #[.int .i64 v0, .int .i64 v1, .int .i64 v2, .int .i64 v3, .int .i64 v4, .int .i64 v5, .int .i64 v6, .int .i64 v7, .int .i64 v8, .int .i64 v9, .int .i64 v10, .slice p1 N k1] 26 ∧ Blk w7 gb #[.int .i64 v0, .int .i64 v1, .int .i64 v2, .int .i64 v3, .int .i64 v4, .int .i64 v5, .int .i64 v6, .int .i64 v7, .int .i64 v8, .int .i64 v9, .int .i64 v10, .slice p3 N k3] 26 ∧ StepsV w7 w2.heap.size (.slice p3 N k3) C3 from ⟨H6.out.1.trans f7 (by simp), f7.blk H6.out.2.1 (by simp), f7.blk H6.out.2.2.1 (by simp), H6.out.2.2.2.2.fr f7⟩)
  clear f7
  have c1 : w7.cell? ⟨ga, 11, none⟩ = some (.slice p1 N k1) := H7.out.2.1.at 11 rfl
  have ex : (t.toList != t.toList) = false := by simp
  have HSP := Lib.hid (spoilt_any w1 w7 w.heap.size (.slice p1 N k1) C1 H1.out.2.1 H7.out.1 (HIC.out _ H1.out.1).2.2 (HIC.out _ H1.out.1).2.1)
  go_wp2_with fail
  (with_reducible refine HSP.out.mono ?_)
  rintro e w8 ⟨rfl, f8⟩
  clear c1 ex
  have hns : ∀ b, w1.heap.size ≤ b → b ∉ bw w.heap.size w1.heap.size := fun b hb hq => by have := mem_bw.1 hq; omega
  have hw8 : Fr [] w w8 := (H1.out.2.2.trans H7.out.1 (by simp)).trans f8 (fun x hx => .inr (mem_bw.1 hx).1)
  have hgb1 : w1.heap.size ≤ gb := by have := HGgb.out.1; have := H3.out.2.2.2.size; omega
  have H8 := Lib.hid (show Fr [] w w8 ∧ Blk w8 gb #[.int .i64 v0, .int .i64 v1, .int .i64 v2, .int .i64 v3, .int .i64 v4, .int .i64 v5, .int .i64 v6, .int .i64 v7, .int .i64 v8, .int .i64 v9, .int .i64 v10, .slice p3 N k3] 26 ∧ StepsV w8 w2.heap.size (.slice p3 N k3) C3 from ⟨hw8, f8.blk H7.out.2.2.1 (hns gb hgb1), H7.out.2.2.2.frS f8 H2.out.size⟩)
  have HP8 := Lib.hid (HPA.out w8 ((H8.out.1.cell HM.out.2 (by simp)).trans HM.out.1))
  clear hns hw8 hgb1 f8
  go_wp2_with fail
  (with_reducible refine HP8.out.mono ?_)
  rintro e w9 hq
  obtain ⟨p9, k9, C9, rfl, hm9, hv9, f9⟩ := hq.lit
  rw [← HN.out] at hv9 ⊢
  have H9 := Lib.hid (show C9.map Prod.fst = L ∧ StepsV w9 w8.heap.size (.slice p9 N k9) C9 ∧ Fr [] w w9 ∧ Blk w9 gb #[.int .i64 v0, .int .i64 v1, .int .i64 v2, .int .i64 v3, .int .i64 v4, .int .i64 v5, .int .i64 v6, .int .i64 v7, .int .i64 v8, .int .i64 v9, .int .i64 v10, .slice p3 N k3] 26 ∧ StepsV w9 w2.heap.size (.slice p3 N k3) C3 from ⟨hm9, hv9, H8.out.1.trans f9 (by simp), f9.blk H8.out.2.1 (by simp), H8.out.2.2.fr f9⟩)
  clear hq hm9 hv9 f9
  obtain ⟨gc, hgc⟩ : ∃ g, g = w9.heap.size := ⟨_, rfl⟩
  have hz := Blk.new_at hgc #[.int .i64 0, .int .i64 0, .int .i64 0, .int .i64 0, .int .i64 0, .int .i64 0, .int .i64 0, .int .i64 0, .int .i64 0, .int .i64 0, .int .i64 0, .slice none 0 0] 26
  have q1 := hz.can12 rfl
  rw [hgc] at q1
  have zo : scrOk #[.int .i64 v0, .int .i64 v1, .int .i64 v2, .int .i64 v3, .int .i64 v4, .int .i64 v5, .int .i64 v6, .int .i64 v7, .int .i64 v8, .int .i64 v9, .int .i64 v10, .slice p9 N k9] = true := scrC_ok (cfg := [v0, v1, v2, v3, v4, v5, v6, v7, v8, v9, v10]) rfl rfl
  obtain ⟨w10, hwn⟩ : ∃ wn, layA (w9.alloc (.cells #[.int .i64 0, .int .i64 0, .int .i64 0, .int .i64 0, .int .i64 0, .int .i64 0, .int .i64 0, .int .i64 0, .int .i64 0, .int .i64 0, .int .i64 0, .slice none 0 0] 26)) w9.heap.size #[.int .i64 v0, .int .i64 v1, .int .i64 v2, .int .i64 v3, .int .i64 v4, .int .i64 v5, .int .i64 v6, .int .i64 v7, .int .i64 v8, .int .i64 v9, .int .i64 v10, .slice p9 N k9] = wn := ⟨_, rfl⟩
  have hbn : Blk w10 gc #[.int .i64 v0, .int .i64 v1, .int .i64 v2, .int .i64 v3, .int .i64 v4, .int .i64 v5, .int .i64 v6, .int .i64 v7, .int .i64 v8, .int .i64 v9, .int .i64 v10, .slice p9 N k9] 26 := by rw [← hwn, ← hgc]; exact hz.layA rfl _ rfl
  have hfn : Fr [] w9 w10 := by rw [← hwn]; exact ((Fr.refl [] w9).alloc _).layA _ _ (.inr (Nat.le_refl _))
  have HBgc := Lib.hid (And.intro hbn hfn)
  have HGgc := Lib.hid hgc
  have HWgc := Lib.hid hwn
  clear hz hbn hfn hwn hgc
  go_upto_region 12 with fail
  rw [HWgc.out, ← HGgc.out]
  clear q1 zo
  have H10 := Lib.hid (show Fr [] w w10 ∧ Blk w10 gb #[.int .i64 v0, .int .i64 v1, .int .i64 v2, .int .i64 v3, .int .i64 v4, .int .i64 v5, .int .i64 v6, .int .i64 v7, .int .i64 v8, .int .i64 v9, .int .i64 v10, .slice p3 N k3] 26 ∧ RdT w10 (.slice p3 N k3) C3 ∧ RdT w10 (.slice p9 N k9) C9 from ⟨H9.out.2.2.1.trans HBgc.out.2 (by simp), HBgc.out.2.blk H9.out.2.2.2.1 (by simp), (H9.out.2.2.2.2.fr HBgc.out.2).rdT, (H9.out.2.1.fr HBgc.out.2).rdT⟩)
  have r1 := run_cfg w10 gc v0 v1 v2 v3 v4 v5 v6 v7 v8 v9 v10 _ 26 HBgc.out.1
  have r2 := run_cfg w10 gb v0 v1 v2 v3 v4 v5 v6 v7 v8 v9 v10 _ 26 H10.out.2.1
  have eq := eql_cfg w10 v0 v1 v2 v3 v4 v5 v6 v7 v8 v9 v10
  have c1 : w10.cell? ⟨gc, 11, none⟩ = some (.slice p9 N k9) := HBgc.out.1.at 11 rfl
  have c2 : w10.cell? ⟨gb, 11, none⟩ = some (.slice p3 N k3) := H10.out.2.1.at 11 rfl
  have HSN := Lib.hid (same_any w10 (.slice p9 N k9) (.slice p3 N k3) C9 C3 H10.out.2.2.2 H10.out.2.2.1 (by have := (HIC.out _ H9.out.1).2.1; omega) (by have := (HIC.out _ H3.out.1).2.1; omega) (fun x hx => ((HIC.out _ H9.out.1).1 x hx).2.2.2.2) (fun x hx => ((HIC.out _ H3.out.1).1 x hx).2.2.2.2))
  rw [decide_eq_true (H9.out.1.trans H3.out.1.symm)] at HSN
  go_wp2_with fail
  (with_reducible refine HSN.out.mono ?_)
  rintro e w11 ⟨rfl, f11⟩
  have H11 := Lib.hid (H10.out.1.trans f11 (by simp))
  clear f11 r1 r2 eq c1 c2
  go_wp2
  go_ret
  exact ⟨rfl, H11.out⟩
theorem parses_walk (w : World) (t : ByteArray) (m : Int) (hm : w.cell? ⟨1, 0, none⟩ = some (.int .i64 m)) (htb : TB w) (hg : w.cell? ⟨0, 0, none⟩ = some errTy) :
    Calls Tryz.prog 3 #[.string t] w fun e w' => e = .returned (.bool true) ∧ Fr [] w w' := by
  match hp : parseP t with
  | .error (l, a, c) => exact parses_bad w t m hm hg l a c hp
  | .ok (cfg, L) =>
    obtain ⟨v0, v1, v2, v3, v4, v5, v6, v7, v8, v9, v10, rfl⟩ := eleven (print_parse hp).1
    exact parses_good w t m hm htb v0 v1 v2 v3 v4 v5 v6 v7 v8 v9 v10 L hp
end Sc
end Go.Proofs.YtbpgpjibljgiiaaGreatDoor
