/-
  Script: the numbers of a Config: eleven pointers into it. Printed by genNu.py.
-/
import Derived.Test.YtbpgpjibljgiiaaGreatDoorStK
namespace Go.Proofs.YtbpgpjibljgiiaaGreatDoor
open Go.RowKit
set_option linter.unusedVariables false
set_option linter.unusedSimpArgs false
attribute [local go_sem] Oper.semAt_some
def lay11 (W : World) (g : Nat) (v0 v1 v2 v3 v4 v5 v6 v7 v8 v9 v10 : Value) : World := W.setCells g 0 [v0, v1, v2, v3, v4, v5, v6, v7, v8, v9, v10]
def can11 (w : World) (g : Nat) : Bool := (List.range 11).all fun j => (w.cell? ⟨g, 0 + j, none⟩).isSome && !(w.frozen? ⟨g, 0 + j, none⟩)
def storeNu (a : Addr) (v : Value) : Sem Unit := storeVar 76 a v
def storeNu' (a : Addr) (v : Value) : Sem Unit := storeVar 76 a v
theorem storeVar100 (a : Addr) (v : Value) : storeVar 76 a v = storeNu a v := rfl
theorem info100 : (Tryz.prog.info? 76).map (·.size) = some 11 := by kernel_rfl
set_option maxRecDepth 100000 in
theorem run_storeNu (w : World) (g : Nat) (v0 v1 v2 v3 v4 v5 v6 v7 v8 v9 v10 : Value) : (storeNu ⟨g, 0, none⟩ (.agg #[v0, v1, v2, v3, v4, v5, v6, v7, v8, v9, v10])).run Tryz.prog w = bif can11 w g && (v0.oneCell' && v1.oneCell' && v2.oneCell' && v3.oneCell' && v4.oneCell' && v5.oneCell' && v6.oneCell' && v7.oneCell' && v8.oneCell' && v9.oneCell' && v10.oneCell') then .ok () (lay11 w g v0 v1 v2 v3 v4 v5 v6 v7 v8 v9 v10) else (storeNu' ⟨g, 0, none⟩ (.agg #[v0, v1, v2, v3, v4, v5, v6, v7, v8, v9, v10])).run Tryz.prog w := by
  cases h : can11 w g && (v0.oneCell' && v1.oneCell' && v2.oneCell' && v3.oneCell' && v4.oneCell' && v5.oneCell' && v6.oneCell' && v7.oneCell' && v8.oneCell' && v9.oneCell' && v10.oneCell') with
  | false => rfl
  | true =>
    rw [Bool.and_eq_true] at h
    have ht : w.there g 0 11 := fun j hj => by
      have := List.all_eq_true.1 h.1 j (List.mem_range.2 hj)
      simpa using this
    have h2 := h.2
    simp only [Bool.and_eq_true] at h2
    rw [cond_true]
    unfold lay11 storeNu
    have hsz : (#[v0, v1, v2, v3, v4, v5, v6, v7, v8, v9, v10] : Array Value).size = 11 := rfl
    have hls : (#[v0, v1, v2, v3, v4, v5, v6, v7, v8, v9, v10] : Array Value).toList = [v0, v1, v2, v3, v4, v5, v6, v7, v8, v9, v10] := rfl
    have hal : (#[v0, v1, v2, v3, v4, v5, v6, v7, v8, v9, v10] : Array Value).all (·.oneCell') = true := (Array.all_eq_true'.2 (fun v hv => by
      simp only [List.mem_toArray, List.mem_cons, List.not_mem_nil, or_false] at hv
      obtain ⟨⟨⟨⟨⟨⟨⟨⟨⟨⟨e0, e1⟩, e2⟩, e3⟩, e4⟩, e5⟩, e6⟩, e7⟩, e8⟩, e9⟩, e10⟩ := h2
      rcases hv with rfl | rfl | rfl | rfl | rfl | rfl | rfl | rfl | rfl | rfl | rfl <;> assumption))
    have key : ∀ cs : Array Value, cs.size = 11 → cs.all (·.oneCell') = true → (storeVar 76 ⟨g, 0, none⟩ (.agg cs)).run Tryz.prog w = .ok () (w.setCells g 0 cs.toList) := fun cs h1 h2 =>
      run_storeVar_mid (P := Tryz.prog) w g 0 76 cs (by rw [h1]; exact ht) (by rw [h1]; exact info100) h2
    exact key _ hsz hal
theorem Blk.lay11 {W : World} {g : Nat} {t : TypeId} {a0 a1 a2 a3 a4 a5 a6 a7 a8 a9 a10 : Value} (h : Blk W g #[a0, a1, a2, a3, a4, a5, a6, a7, a8, a9, a10] t) (v0 v1 v2 v3 v4 v5 v6 v7 v8 v9 v10 : Value) : Blk (lay11 W g v0 v1 v2 v3 v4 v5 v6 v7 v8 v9 v10) g #[v0, v1, v2, v3, v4, v5, v6, v7, v8, v9, v10] t := by
  have h0 := h
  have h1 : Blk (W.setCell ⟨g, 0, none⟩ v0) g #[v0, a1, a2, a3, a4, a5, a6, a7, a8, a9, a10] t := h0.set 0 v0
  have h2 : Blk ((W.setCell ⟨g, 0, none⟩ v0).setCell ⟨g, 1, none⟩ v1) g #[v0, v1, a2, a3, a4, a5, a6, a7, a8, a9, a10] t := h1.set 1 v1
  have h3 : Blk (((W.setCell ⟨g, 0, none⟩ v0).setCell ⟨g, 1, none⟩ v1).setCell ⟨g, 2, none⟩ v2) g #[v0, v1, v2, a3, a4, a5, a6, a7, a8, a9, a10] t := h2.set 2 v2
  have h4 : Blk ((((W.setCell ⟨g, 0, none⟩ v0).setCell ⟨g, 1, none⟩ v1).setCell ⟨g, 2, none⟩ v2).setCell ⟨g, 3, none⟩ v3) g #[v0, v1, v2, v3, a4, a5, a6, a7, a8, a9, a10] t := h3.set 3 v3
  have h5 : Blk (((((W.setCell ⟨g, 0, none⟩ v0).setCell ⟨g, 1, none⟩ v1).setCell ⟨g, 2, none⟩ v2).setCell ⟨g, 3, none⟩ v3).setCell ⟨g, 4, none⟩ v4) g #[v0, v1, v2, v3, v4, a5, a6, a7, a8, a9, a10] t := h4.set 4 v4
  have h6 : Blk ((((((W.setCell ⟨g, 0, none⟩ v0).setCell ⟨g, 1, none⟩ v1).setCell ⟨g, 2, none⟩ v2).setCell ⟨g, 3, none⟩ v3).setCell ⟨g, 4, none⟩ v4).setCell ⟨g, 5, none⟩ v5) g #[v0, v1, v2, v3, v4, v5, a6, a7, a8, a9, a10] t := h5.set 5 v5
  have h7 : Blk (((((((W.setCell ⟨g, 0, none⟩ v0).setCell ⟨g, 1, none⟩ v1).setCell ⟨g, 2, none⟩ v2).setCell ⟨g, 3, none⟩ v3).setCell ⟨g, 4, none⟩ v4).setCell ⟨g, 5, none⟩ v5).setCell ⟨g, 6, none⟩ v6) g #[v0, v1, v2, v3, v4, v5, v6, a7, a8, a9, a10] t := h6.set 6 v6
  have h8 : Blk ((((((((W.setCell ⟨g, 0, none⟩ v0).setCell ⟨g, 1, none⟩ v1).setCell ⟨g, 2, none⟩ v2).setCell ⟨g, 3, none⟩ v3).setCell ⟨g, 4, none⟩ v4).setCell ⟨g, 5, none⟩ v5).setCell ⟨g, 6, none⟩ v6).setCell ⟨g, 7, none⟩ v7) g #[v0, v1, v2, v3, v4, v5, v6, v7, a8, a9, a10] t := h7.set 7 v7
  have h9 : Blk (((((((((W.setCell ⟨g, 0, none⟩ v0).setCell ⟨g, 1, none⟩ v1).setCell ⟨g, 2, none⟩ v2).setCell ⟨g, 3, none⟩ v3).setCell ⟨g, 4, none⟩ v4).setCell ⟨g, 5, none⟩ v5).setCell ⟨g, 6, none⟩ v6).setCell ⟨g, 7, none⟩ v7).setCell ⟨g, 8, none⟩ v8) g #[v0, v1, v2, v3, v4, v5, v6, v7, v8, a9, a10] t := h8.set 8 v8
  have h10 : Blk ((((((((((W.setCell ⟨g, 0, none⟩ v0).setCell ⟨g, 1, none⟩ v1).setCell ⟨g, 2, none⟩ v2).setCell ⟨g, 3, none⟩ v3).setCell ⟨g, 4, none⟩ v4).setCell ⟨g, 5, none⟩ v5).setCell ⟨g, 6, none⟩ v6).setCell ⟨g, 7, none⟩ v7).setCell ⟨g, 8, none⟩ v8).setCell ⟨g, 9, none⟩ v9) g #[v0, v1, v2, v3, v4, v5, v6, v7, v8, v9, a10] t := h9.set 9 v9
  have h11 : Blk (((((((((((W.setCell ⟨g, 0, none⟩ v0).setCell ⟨g, 1, none⟩ v1).setCell ⟨g, 2, none⟩ v2).setCell ⟨g, 3, none⟩ v3).setCell ⟨g, 4, none⟩ v4).setCell ⟨g, 5, none⟩ v5).setCell ⟨g, 6, none⟩ v6).setCell ⟨g, 7, none⟩ v7).setCell ⟨g, 8, none⟩ v8).setCell ⟨g, 9, none⟩ v9).setCell ⟨g, 10, none⟩ v10) g #[v0, v1, v2, v3, v4, v5, v6, v7, v8, v9, v10] t := h10.set 10 v10
  exact h11
theorem Fr.lay11 (W : World) (g : Nat) (v0 v1 v2 v3 v4 v5 v6 v7 v8 v9 v10 : Value) : Fr [g] W (lay11 W g v0 v1 v2 v3 v4 v5 v6 v7 v8 v9 v10) :=
  ((((((((((((Fr.refl _ _).setCell ⟨g, 0, none⟩ v0 (.inl (by simp))).setCell ⟨g, 1, none⟩ v1 (.inl (by simp))).setCell ⟨g, 2, none⟩ v2 (.inl (by simp))).setCell ⟨g, 3, none⟩ v3 (.inl (by simp))).setCell ⟨g, 4, none⟩ v4 (.inl (by simp))).setCell ⟨g, 5, none⟩ v5 (.inl (by simp))).setCell ⟨g, 6, none⟩ v6 (.inl (by simp))).setCell ⟨g, 7, none⟩ v7 (.inl (by simp))).setCell ⟨g, 8, none⟩ v8 (.inl (by simp))).setCell ⟨g, 9, none⟩ v9 (.inl (by simp))).setCell ⟨g, 10, none⟩ v10 (.inl (by simp)))
theorem Blk.can11 {W : World} {g : Nat} {t : TypeId} {a0 a1 a2 a3 a4 a5 a6 a7 a8 a9 a10 : Value} (h : Blk W g #[a0, a1, a2, a3, a4, a5, a6, a7, a8, a9, a10] t) : can11 W g = true := by
  refine List.all_eq_true.2 fun j hj => ?_
  have hj := List.mem_range.1 hj
  have hc : j = 0 ∨ j = 1 ∨ j = 2 ∨ j = 3 ∨ j = 4 ∨ j = 5 ∨ j = 6 ∨ j = 7 ∨ j = 8 ∨ j = 9 ∨ j = 10 := by omega
  rcases hc with rfl | rfl | rfl | rfl | rfl | rfl | rfl | rfl | rfl | rfl | rfl
  · rw [h.at (0 + 0) (v := a0) rfl, h.free]; rfl
  · rw [h.at (0 + 1) (v := a1) rfl, h.free]; rfl
  · rw [h.at (0 + 2) (v := a2) rfl, h.free]; rfl
  · rw [h.at (0 + 3) (v := a3) rfl, h.free]; rfl
  · rw [h.at (0 + 4) (v := a4) rfl, h.free]; rfl
  · rw [h.at (0 + 5) (v := a5) rfl, h.free]; rfl
  · rw [h.at (0 + 6) (v := a6) rfl, h.free]; rfl
  · rw [h.at (0 + 7) (v := a7) rfl, h.free]; rfl
  · rw [h.at (0 + 8) (v := a8) rfl, h.free]; rfl
  · rw [h.at (0 + 9) (v := a9) rfl, h.free]; rfl
  · rw [h.at (0 + 10) (v := a10) rfl, h.free]; rfl
theorem results_100 {fn : Func} {p : Tmp} (h : fn.results = #[.cell p 76]) (tmps : Array Value) (w : World) (g : Nat) {v0 v1 v2 v3 v4 v5 v6 v7 v8 v9 v10 : Value} (x : Value) (hp : tmps.getD p undef = .pointer (some ⟨g, 0, none⟩)) {t : TypeId} (hb : Blk w g #[v0, v1, v2, v3, v4, v5, v6, v7, v8, v9, v10] t) (hx : x = .agg #[v0, v1, v2, v3, v4, v5, v6, v7, v8, v9, v10] := by rfl) :
    (results fn tmps).run Tryz.prog w = .ok x w := by
  subst hx
  have hl : (loadVar 76 ⟨g, 0, none⟩).run Tryz.prog w = .ok (.agg #[v0, v1, v2, v3, v4, v5, v6, v7, v8, v9, v10]) w := by
    refine run_loadVar_mid (P := Tryz.prog) w g 0 76 [v0, v1, v2, v3, v4, v5, v6, v7, v8, v9, v10] _ (fun j v hv => ?_) Tryz.underlying76 rfl info100
    exact (by simpa using hb.at j (v := v) (by simpa using hv))
  have hp' : tmps[p]?.getD undef = .pointer (some ⟨g, 0, none⟩) := by simpa using hp
  simp [results, h, hp', asAddr, hl, Result.andThen]
attribute [local go_sem ↓] storeVar100
attribute [local go_sem] run_storeNu
namespace Sc
/-- Eleven pointers into the Config that stands at the head of block c. -/
def numsV (c : Nat) : Array Value := #[.iface 80 (.pointer (some ⟨c, 0, none⟩)), .iface 80 (.pointer (some ⟨c, 1, none⟩)), .iface 80 (.pointer (some ⟨c, 2, none⟩)), .iface 80 (.pointer (some ⟨c, 3, none⟩)), .iface 80 (.pointer (some ⟨c, 4, none⟩)), .iface 80 (.pointer (some ⟨c, 5, none⟩)), .iface 80 (.pointer (some ⟨c, 6, none⟩)), .iface 80 (.pointer (some ⟨c, 7, none⟩)), .iface 80 (.pointer (some ⟨c, 8, none⟩)), .iface 82 (.pointer (some ⟨c, 9, none⟩)), .iface 80 (.pointer (some ⟨c, 10, none⟩))]
set_option maxRecDepth 100000 in
set_option maxHeartbeats 4000000 in
theorem numbers_any (w : World) (c : Nat) : Calls Tryz.prog 24 #[.pointer (some ⟨c, 0, none⟩)] w fun e w' => e = .returned (.agg (numsV c)) ∧ Fr [] w w' := by
  obtain ⟨sb, hsb⟩ : ∃ sb, sb = w.heap.size := ⟨_, rfl⟩
  have HB := Lib.hid (And.intro (Blk.new_at hsb #[.nilIface, .nilIface, .nilIface, .nilIface, .nilIface, .nilIface, .nilIface, .nilIface, .nilIface, .nilIface, .nilIface] 76) hsb)
  clear hsb
  go_enter Tryz.func24, Tryz.ntmps24
  go_wp2_with fail
  rw [← HB.out.2]
  refine region_tail (by kernel_rfl) (by kernel_rfl) [[], [0], [0, 1], [0, 1, 2], [], [4], [4, 5], [4, 5, 6], [], [8], [8, 9], [8, 9, 10], [], [12], [12, 13], [12, 13, 14], [], [16], [16, 17], [16, 17, 18], [], [20], [20, 21], [20, 21, 22], [], [24], [24, 25], [24, 25, 26], [], [28], [28, 29], [28, 29, 30], [], [32], [32, 33], [32, 33, 34], [], [36], [36, 37], [36, 37, 38], [], [40], [40, 41], [40, 41, 42], [0, 1, 2, 3, 4, 5, 6, 7, 8, 9, 10, 11, 12, 13, 14, 15, 16, 17, 18, 19, 20, 21, 22, 23, 24, 25, 26, 27, 28, 29, 30, 31, 32, 33, 34, 35, 36, 37, 38, 39, 40, 41, 42, 43], [0, 1, 2, 3, 4, 5, 6, 7, 8, 9, 10, 11, 12, 13, 14, 15, 16, 17, 18, 19, 20, 21, 22, 23, 24, 25, 26, 27, 28, 29, 30, 31, 32, 33, 34, 35, 36, 37, 38, 39, 40, 41, 42, 43, 44]] (by kernel_rfl) 45 (by decide) (by kernel_rfl) [.is (.pointer (some ⟨c, 0, none⟩)), .is (.pointer (some ⟨c, 0, none⟩)), .is (.pointer (some ⟨c, 0, none⟩)), .is (.iface 80 (.pointer (some ⟨c, 0, none⟩))), .is (.pointer (some ⟨c, 0, none⟩)), .is (.pointer (some ⟨c, 0, none⟩)), .is (.pointer (some ⟨c, 1, none⟩)), .is (.iface 80 (.pointer (some ⟨c, 1, none⟩))), .is (.pointer (some ⟨c, 0, none⟩)), .is (.pointer (some ⟨c, 0, none⟩)), .is (.pointer (some ⟨c, 2, none⟩)), .is (.iface 80 (.pointer (some ⟨c, 2, none⟩))), .is (.pointer (some ⟨c, 0, none⟩)), .is (.pointer (some ⟨c, 0, none⟩)), .is (.pointer (some ⟨c, 3, none⟩)), .is (.iface 80 (.pointer (some ⟨c, 3, none⟩))), .is (.pointer (some ⟨c, 0, none⟩)), .is (.pointer (some ⟨c, 0, none⟩)), .is (.pointer (some ⟨c, 4, none⟩)), .is (.iface 80 (.pointer (some ⟨c, 4, none⟩))), .is (.pointer (some ⟨c, 0, none⟩)), .is (.pointer (some ⟨c, 0, none⟩)), .is (.pointer (some ⟨c, 5, none⟩)), .is (.iface 80 (.pointer (some ⟨c, 5, none⟩))), .is (.pointer (some ⟨c, 0, none⟩)), .is (.pointer (some ⟨c, 0, none⟩)), .is (.pointer (some ⟨c, 6, none⟩)), .is (.iface 80 (.pointer (some ⟨c, 6, none⟩))), .is (.pointer (some ⟨c, 0, none⟩)), .is (.pointer (some ⟨c, 0, none⟩)), .is (.pointer (some ⟨c, 7, none⟩)), .is (.iface 80 (.pointer (some ⟨c, 7, none⟩))), .is (.pointer (some ⟨c, 0, none⟩)), .is (.pointer (some ⟨c, 0, none⟩)), .is (.pointer (some ⟨c, 8, none⟩)), .is (.iface 80 (.pointer (some ⟨c, 8, none⟩))), .is (.pointer (some ⟨c, 0, none⟩)), .is (.pointer (some ⟨c, 0, none⟩)), .is (.pointer (some ⟨c, 9, none⟩)), .is (.iface 82 (.pointer (some ⟨c, 9, none⟩))), .is (.pointer (some ⟨c, 0, none⟩)), .is (.pointer (some ⟨c, 0, none⟩)), .is (.pointer (some ⟨c, 10, none⟩)), .is (.iface 80 (.pointer (some ⟨c, 10, none⟩))), .is (.agg #[.iface 80 (.pointer (some ⟨c, 0, none⟩)), .iface 80 (.pointer (some ⟨c, 1, none⟩)), .iface 80 (.pointer (some ⟨c, 2, none⟩)), .iface 80 (.pointer (some ⟨c, 3, none⟩)), .iface 80 (.pointer (some ⟨c, 4, none⟩)), .iface 80 (.pointer (some ⟨c, 5, none⟩)), .iface 80 (.pointer (some ⟨c, 6, none⟩)), .iface 80 (.pointer (some ⟨c, 7, none⟩)), .iface 80 (.pointer (some ⟨c, 8, none⟩)), .iface 82 (.pointer (some ⟨c, 9, none⟩)), .iface 80 (.pointer (some ⟨c, 10, none⟩))])] 48 rfl (by kernel_rfl) ?_ ?_
  · intro q a1 W1 i hi hnq hd hG K hK
    have hlt : i < 45 := hi
    have hc : i = 0 ∨ i = 1 ∨ i = 2 ∨ i = 3 ∨ i = 4 ∨ i = 5 ∨ i = 6 ∨ i = 7 ∨ i = 8 ∨ i = 9 ∨ i = 10 ∨ i = 11 ∨ i = 12 ∨ i = 13 ∨ i = 14 ∨ i = 15 ∨ i = 16 ∨ i = 17 ∨ i = 18 ∨ i = 19 ∨ i = 20 ∨ i = 21 ∨ i = 22 ∨ i = 23 ∨ i = 24 ∨ i = 25 ∨ i = 26 ∨ i = 27 ∨ i = 28 ∨ i = 29 ∨ i = 30 ∨ i = 31 ∨ i = 32 ∨ i = 33 ∨ i = 34 ∨ i = 35 ∨ i = 36 ∨ i = 37 ∨ i = 38 ∨ i = 39 ∨ i = 40 ∨ i = 41 ∨ i = 42 ∨ i = 43 ∨ i = 44 := by omega
    rcases hc with rfl | rfl | rfl | rfl | rfl | rfl | rfl | rfl | rfl | rfl | rfl | rfl | rfl | rfl | rfl | rfl | rfl | rfl | rfl | rfl | rfl | rfl | rfl | rfl | rfl | rfl | rfl | rfl | rfl | rfl | rfl | rfl | rfl | rfl | rfl | rfl | rfl | rfl | rfl | rfl | rfl | rfl | rfl | rfl | rfl
    · have e0 := hG.old 0 (by kernel_rfl)
      refine op_do rfl (wanted_none rfl) hK (fun K' hK' => ?_)
      unfold Oper.wp
      go_simp
      exact hK' _ _ (Fr.refl _ _) rfl
    · have e3 := hG.val (v := .pointer (some ⟨c, 0, none⟩)) 0 3 (hd _ rfl ⟨0, .data⟩ (by simp) rfl) rfl rfl
      refine op_do rfl (wanted_none rfl) hK (fun K' hK' => ?_)
      unfold Oper.wp
      go_simp
      exact hK' _ _ (Fr.refl _ _) rfl
    · have e4 := hG.val (v := .pointer (some ⟨c, 0, none⟩)) 1 4 (hd _ rfl ⟨1, .data⟩ (by simp) rfl) rfl rfl
      refine op_do rfl (wanted_none rfl) hK (fun K' hK' => ?_)
      unfold Oper.wp
      go_simp
      exact hK' _ _ (Fr.refl _ _) rfl
    · have e5 := hG.val (v := .pointer (some ⟨c, 0, none⟩)) 2 5 (hd _ rfl ⟨2, .data⟩ (by simp) rfl) rfl rfl
      refine op_do rfl (wanted_none rfl) hK (fun K' hK' => ?_)
      unfold Oper.wp
      go_simp
      exact hK' _ _ (Fr.refl _ _) rfl
    · have e0 := hG.old 0 (by kernel_rfl)
      refine op_do rfl (wanted_none rfl) hK (fun K' hK' => ?_)
      unfold Oper.wp
      go_simp
      exact hK' _ _ (Fr.refl _ _) rfl
    · have e7 := hG.val (v := .pointer (some ⟨c, 0, none⟩)) 4 7 (hd _ rfl ⟨4, .data⟩ (by simp) rfl) rfl rfl
      refine op_do rfl (wanted_none rfl) hK (fun K' hK' => ?_)
      unfold Oper.wp
      go_simp
      exact hK' _ _ (Fr.refl _ _) rfl
    · have e8 := hG.val (v := .pointer (some ⟨c, 0, none⟩)) 5 8 (hd _ rfl ⟨5, .data⟩ (by simp) rfl) rfl rfl
      refine op_do rfl (wanted_none rfl) hK (fun K' hK' => ?_)
      unfold Oper.wp
      go_simp
      exact hK' _ _ (Fr.refl _ _) rfl
    · have e9 := hG.val (v := .pointer (some ⟨c, 1, none⟩)) 6 9 (hd _ rfl ⟨6, .data⟩ (by simp) rfl) rfl rfl
      refine op_do rfl (wanted_none rfl) hK (fun K' hK' => ?_)
      unfold Oper.wp
      go_simp
      exact hK' _ _ (Fr.refl _ _) rfl
    · have e0 := hG.old 0 (by kernel_rfl)
      refine op_do rfl (wanted_none rfl) hK (fun K' hK' => ?_)
      unfold Oper.wp
      go_simp
      exact hK' _ _ (Fr.refl _ _) rfl
    · have e11 := hG.val (v := .pointer (some ⟨c, 0, none⟩)) 8 11 (hd _ rfl ⟨8, .data⟩ (by simp) rfl) rfl rfl
      refine op_do rfl (wanted_none rfl) hK (fun K' hK' => ?_)
      unfold Oper.wp
      go_simp
      exact hK' _ _ (Fr.refl _ _) rfl
    · have e12 := hG.val (v := .pointer (some ⟨c, 0, none⟩)) 9 12 (hd _ rfl ⟨9, .data⟩ (by simp) rfl) rfl rfl
      refine op_do rfl (wanted_none rfl) hK (fun K' hK' => ?_)
      unfold Oper.wp
      go_simp
      exact hK' _ _ (Fr.refl _ _) rfl
    · have e13 := hG.val (v := .pointer (some ⟨c, 2, none⟩)) 10 13 (hd _ rfl ⟨10, .data⟩ (by simp) rfl) rfl rfl
      refine op_do rfl (wanted_none rfl) hK (fun K' hK' => ?_)
      unfold Oper.wp
      go_simp
      exact hK' _ _ (Fr.refl _ _) rfl
    · have e0 := hG.old 0 (by kernel_rfl)
      refine op_do rfl (wanted_none rfl) hK (fun K' hK' => ?_)
      unfold Oper.wp
      go_simp
      exact hK' _ _ (Fr.refl _ _) rfl
    · have e15 := hG.val (v := .pointer (some ⟨c, 0, none⟩)) 12 15 (hd _ rfl ⟨12, .data⟩ (by simp) rfl) rfl rfl
      refine op_do rfl (wanted_none rfl) hK (fun K' hK' => ?_)
      unfold Oper.wp
      go_simp
      exact hK' _ _ (Fr.refl _ _) rfl
    · have e16 := hG.val (v := .pointer (some ⟨c, 0, none⟩)) 13 16 (hd _ rfl ⟨13, .data⟩ (by simp) rfl) rfl rfl
      refine op_do rfl (wanted_none rfl) hK (fun K' hK' => ?_)
      unfold Oper.wp
      go_simp
      exact hK' _ _ (Fr.refl _ _) rfl
    · have e17 := hG.val (v := .pointer (some ⟨c, 3, none⟩)) 14 17 (hd _ rfl ⟨14, .data⟩ (by simp) rfl) rfl rfl
      refine op_do rfl (wanted_none rfl) hK (fun K' hK' => ?_)
      unfold Oper.wp
      go_simp
      exact hK' _ _ (Fr.refl _ _) rfl
    · have e0 := hG.old 0 (by kernel_rfl)
      refine op_do rfl (wanted_none rfl) hK (fun K' hK' => ?_)
      unfold Oper.wp
      go_simp
      exact hK' _ _ (Fr.refl _ _) rfl
    · have e19 := hG.val (v := .pointer (some ⟨c, 0, none⟩)) 16 19 (hd _ rfl ⟨16, .data⟩ (by simp) rfl) rfl rfl
      refine op_do rfl (wanted_none rfl) hK (fun K' hK' => ?_)
      unfold Oper.wp
      go_simp
      exact hK' _ _ (Fr.refl _ _) rfl
    · have e20 := hG.val (v := .pointer (some ⟨c, 0, none⟩)) 17 20 (hd _ rfl ⟨17, .data⟩ (by simp) rfl) rfl rfl
      refine op_do rfl (wanted_none rfl) hK (fun K' hK' => ?_)
      unfold Oper.wp
      go_simp
      exact hK' _ _ (Fr.refl _ _) rfl
    · have e21 := hG.val (v := .pointer (some ⟨c, 4, none⟩)) 18 21 (hd _ rfl ⟨18, .data⟩ (by simp) rfl) rfl rfl
      refine op_do rfl (wanted_none rfl) hK (fun K' hK' => ?_)
      unfold Oper.wp
      go_simp
      exact hK' _ _ (Fr.refl _ _) rfl
    · have e0 := hG.old 0 (by kernel_rfl)
      refine op_do rfl (wanted_none rfl) hK (fun K' hK' => ?_)
      unfold Oper.wp
      go_simp
      exact hK' _ _ (Fr.refl _ _) rfl
    · have e23 := hG.val (v := .pointer (some ⟨c, 0, none⟩)) 20 23 (hd _ rfl ⟨20, .data⟩ (by simp) rfl) rfl rfl
      refine op_do rfl (wanted_none rfl) hK (fun K' hK' => ?_)
      unfold Oper.wp
      go_simp
      exact hK' _ _ (Fr.refl _ _) rfl
    · have e24 := hG.val (v := .pointer (some ⟨c, 0, none⟩)) 21 24 (hd _ rfl ⟨21, .data⟩ (by simp) rfl) rfl rfl
      refine op_do rfl (wanted_none rfl) hK (fun K' hK' => ?_)
      unfold Oper.wp
      go_simp
      exact hK' _ _ (Fr.refl _ _) rfl
    · have e25 := hG.val (v := .pointer (some ⟨c, 5, none⟩)) 22 25 (hd _ rfl ⟨22, .data⟩ (by simp) rfl) rfl rfl
      refine op_do rfl (wanted_none rfl) hK (fun K' hK' => ?_)
      unfold Oper.wp
      go_simp
      exact hK' _ _ (Fr.refl _ _) rfl
    · have e0 := hG.old 0 (by kernel_rfl)
      refine op_do rfl (wanted_none rfl) hK (fun K' hK' => ?_)
      unfold Oper.wp
      go_simp
      exact hK' _ _ (Fr.refl _ _) rfl
    · have e27 := hG.val (v := .pointer (some ⟨c, 0, none⟩)) 24 27 (hd _ rfl ⟨24, .data⟩ (by simp) rfl) rfl rfl
      refine op_do rfl (wanted_none rfl) hK (fun K' hK' => ?_)
      unfold Oper.wp
      go_simp
      exact hK' _ _ (Fr.refl _ _) rfl
    · have e28 := hG.val (v := .pointer (some ⟨c, 0, none⟩)) 25 28 (hd _ rfl ⟨25, .data⟩ (by simp) rfl) rfl rfl
      refine op_do rfl (wanted_none rfl) hK (fun K' hK' => ?_)
      unfold Oper.wp
      go_simp
      exact hK' _ _ (Fr.refl _ _) rfl
    · have e29 := hG.val (v := .pointer (some ⟨c, 6, none⟩)) 26 29 (hd _ rfl ⟨26, .data⟩ (by simp) rfl) rfl rfl
      refine op_do rfl (wanted_none rfl) hK (fun K' hK' => ?_)
      unfold Oper.wp
      go_simp
      exact hK' _ _ (Fr.refl _ _) rfl
    · have e0 := hG.old 0 (by kernel_rfl)
      refine op_do rfl (wanted_none rfl) hK (fun K' hK' => ?_)
      unfold Oper.wp
      go_simp
      exact hK' _ _ (Fr.refl _ _) rfl
    · have e31 := hG.val (v := .pointer (some ⟨c, 0, none⟩)) 28 31 (hd _ rfl ⟨28, .data⟩ (by simp) rfl) rfl rfl
      refine op_do rfl (wanted_none rfl) hK (fun K' hK' => ?_)
      unfold Oper.wp
      go_simp
      exact hK' _ _ (Fr.refl _ _) rfl
    · have e32 := hG.val (v := .pointer (some ⟨c, 0, none⟩)) 29 32 (hd _ rfl ⟨29, .data⟩ (by simp) rfl) rfl rfl
      refine op_do rfl (wanted_none rfl) hK (fun K' hK' => ?_)
      unfold Oper.wp
      go_simp
      exact hK' _ _ (Fr.refl _ _) rfl
    · have e33 := hG.val (v := .pointer (some ⟨c, 7, none⟩)) 30 33 (hd _ rfl ⟨30, .data⟩ (by simp) rfl) rfl rfl
      refine op_do rfl (wanted_none rfl) hK (fun K' hK' => ?_)
      unfold Oper.wp
      go_simp
      exact hK' _ _ (Fr.refl _ _) rfl
    · have e0 := hG.old 0 (by kernel_rfl)
      refine op_do rfl (wanted_none rfl) hK (fun K' hK' => ?_)
      unfold Oper.wp
      go_simp
      exact hK' _ _ (Fr.refl _ _) rfl
    · have e35 := hG.val (v := .pointer (some ⟨c, 0, none⟩)) 32 35 (hd _ rfl ⟨32, .data⟩ (by simp) rfl) rfl rfl
      refine op_do rfl (wanted_none rfl) hK (fun K' hK' => ?_)
      unfold Oper.wp
      go_simp
      exact hK' _ _ (Fr.refl _ _) rfl
    · have e36 := hG.val (v := .pointer (some ⟨c, 0, none⟩)) 33 36 (hd _ rfl ⟨33, .data⟩ (by simp) rfl) rfl rfl
      refine op_do rfl (wanted_none rfl) hK (fun K' hK' => ?_)
      unfold Oper.wp
      go_simp
      exact hK' _ _ (Fr.refl _ _) rfl
    · have e37 := hG.val (v := .pointer (some ⟨c, 8, none⟩)) 34 37 (hd _ rfl ⟨34, .data⟩ (by simp) rfl) rfl rfl
      refine op_do rfl (wanted_none rfl) hK (fun K' hK' => ?_)
      unfold Oper.wp
      go_simp
      exact hK' _ _ (Fr.refl _ _) rfl
    · have e0 := hG.old 0 (by kernel_rfl)
      refine op_do rfl (wanted_none rfl) hK (fun K' hK' => ?_)
      unfold Oper.wp
      go_simp
      exact hK' _ _ (Fr.refl _ _) rfl
    · have e39 := hG.val (v := .pointer (some ⟨c, 0, none⟩)) 36 39 (hd _ rfl ⟨36, .data⟩ (by simp) rfl) rfl rfl
      refine op_do rfl (wanted_none rfl) hK (fun K' hK' => ?_)
      unfold Oper.wp
      go_simp
      exact hK' _ _ (Fr.refl _ _) rfl
    · have e40 := hG.val (v := .pointer (some ⟨c, 0, none⟩)) 37 40 (hd _ rfl ⟨37, .data⟩ (by simp) rfl) rfl rfl
      refine op_do rfl (wanted_none rfl) hK (fun K' hK' => ?_)
      unfold Oper.wp
      go_simp
      exact hK' _ _ (Fr.refl _ _) rfl
    · have e41 := hG.val (v := .pointer (some ⟨c, 9, none⟩)) 38 41 (hd _ rfl ⟨38, .data⟩ (by simp) rfl) rfl rfl
      refine op_do rfl (wanted_none rfl) hK (fun K' hK' => ?_)
      unfold Oper.wp
      go_simp
      exact hK' _ _ (Fr.refl _ _) rfl
    · have e0 := hG.old 0 (by kernel_rfl)
      refine op_do rfl (wanted_none rfl) hK (fun K' hK' => ?_)
      unfold Oper.wp
      go_simp
      exact hK' _ _ (Fr.refl _ _) rfl
    · have e43 := hG.val (v := .pointer (some ⟨c, 0, none⟩)) 40 43 (hd _ rfl ⟨40, .data⟩ (by simp) rfl) rfl rfl
      refine op_do rfl (wanted_none rfl) hK (fun K' hK' => ?_)
      unfold Oper.wp
      go_simp
      exact hK' _ _ (Fr.refl _ _) rfl
    · have e44 := hG.val (v := .pointer (some ⟨c, 0, none⟩)) 41 44 (hd _ rfl ⟨41, .data⟩ (by simp) rfl) rfl rfl
      refine op_do rfl (wanted_none rfl) hK (fun K' hK' => ?_)
      unfold Oper.wp
      go_simp
      exact hK' _ _ (Fr.refl _ _) rfl
    · have e45 := hG.val (v := .pointer (some ⟨c, 10, none⟩)) 42 45 (hd _ rfl ⟨42, .data⟩ (by simp) rfl) rfl rfl
      refine op_do rfl (wanted_none rfl) hK (fun K' hK' => ?_)
      unfold Oper.wp
      go_simp
      exact hK' _ _ (Fr.refl _ _) rfl
    · have e6 := hG.val (v := .iface 80 (.pointer (some ⟨c, 0, none⟩))) 3 6 (hd _ rfl ⟨3, .data⟩ (by simp) rfl) rfl rfl
      have e10 := hG.val (v := .iface 80 (.pointer (some ⟨c, 1, none⟩))) 7 10 (hd _ rfl ⟨7, .data⟩ (by simp) rfl) rfl rfl
      have e14 := hG.val (v := .iface 80 (.pointer (some ⟨c, 2, none⟩))) 11 14 (hd _ rfl ⟨11, .data⟩ (by simp) rfl) rfl rfl
      have e18 := hG.val (v := .iface 80 (.pointer (some ⟨c, 3, none⟩))) 15 18 (hd _ rfl ⟨15, .data⟩ (by simp) rfl) rfl rfl
      have e22 := hG.val (v := .iface 80 (.pointer (some ⟨c, 4, none⟩))) 19 22 (hd _ rfl ⟨19, .data⟩ (by simp) rfl) rfl rfl
      have e26 := hG.val (v := .iface 80 (.pointer (some ⟨c, 5, none⟩))) 23 26 (hd _ rfl ⟨23, .data⟩ (by simp) rfl) rfl rfl
      have e30 := hG.val (v := .iface 80 (.pointer (some ⟨c, 6, none⟩))) 27 30 (hd _ rfl ⟨27, .data⟩ (by simp) rfl) rfl rfl
      have e34 := hG.val (v := .iface 80 (.pointer (some ⟨c, 7, none⟩))) 31 34 (hd _ rfl ⟨31, .data⟩ (by simp) rfl) rfl rfl
      have e38 := hG.val (v := .iface 80 (.pointer (some ⟨c, 8, none⟩))) 35 38 (hd _ rfl ⟨35, .data⟩ (by simp) rfl) rfl rfl
      have e42 := hG.val (v := .iface 82 (.pointer (some ⟨c, 9, none⟩))) 39 42 (hd _ rfl ⟨39, .data⟩ (by simp) rfl) rfl rfl
      have e46 := hG.val (v := .iface 80 (.pointer (some ⟨c, 10, none⟩))) 43 46 (hd _ rfl ⟨43, .data⟩ (by simp) rfl) rfl rfl
      refine op_do rfl (wanted_none rfl) hK (fun K' hK' => ?_)
      unfold Oper.wp
      go_simp
      exact hK' _ _ (Fr.refl _ _) rfl
  · intro q a1 W1 hq hG
    have f1 := hG.grown
    obtain ⟨vs, hv, rfl⟩ := hG.front 48 rfl (by kernel_rfl) (by decide) hq [(0, 3), (1, 4), (2, 5), (3, 6), (4, 7), (5, 8), (6, 9), (7, 10), (8, 11), (9, 12), (10, 13), (11, 14), (12, 15), (13, 16), (14, 17), (15, 18), (16, 19), (17, 20), (18, 21), (19, 22), (20, 23), (21, 24), (22, 25), (23, 26), (24, 27), (25, 28), (26, 29), (27, 30), (28, 31), (29, 32), (30, 33), (31, 34), (32, 35), (33, 36), (34, 37), (35, 38), (36, 39), (37, 40), (38, 41), (39, 42), (40, 43), (41, 44), (42, 45), (43, 46), (44, 47)] (by kernel_rfl)
    clear hG hq
    have r0 : vs 0 = .pointer (some ⟨c, 0, none⟩) := hv 0 3 (by decide) rfl
    have r1 : vs 1 = .pointer (some ⟨c, 0, none⟩) := hv 1 4 (by decide) rfl
    have r2 : vs 2 = .pointer (some ⟨c, 0, none⟩) := hv 2 5 (by decide) rfl
    have r3 : vs 3 = .iface 80 (.pointer (some ⟨c, 0, none⟩)) := hv 3 6 (by decide) rfl
    have r4 : vs 4 = .pointer (some ⟨c, 0, none⟩) := hv 4 7 (by decide) rfl
    have r5 : vs 5 = .pointer (some ⟨c, 0, none⟩) := hv 5 8 (by decide) rfl
    have r6 : vs 6 = .pointer (some ⟨c, 1, none⟩) := hv 6 9 (by decide) rfl
    have r7 : vs 7 = .iface 80 (.pointer (some ⟨c, 1, none⟩)) := hv 7 10 (by decide) rfl
    have r8 : vs 8 = .pointer (some ⟨c, 0, none⟩) := hv 8 11 (by decide) rfl
    have r9 : vs 9 = .pointer (some ⟨c, 0, none⟩) := hv 9 12 (by decide) rfl
    have r10 : vs 10 = .pointer (some ⟨c, 2, none⟩) := hv 10 13 (by decide) rfl
    have r11 : vs 11 = .iface 80 (.pointer (some ⟨c, 2, none⟩)) := hv 11 14 (by decide) rfl
    have r12 : vs 12 = .pointer (some ⟨c, 0, none⟩) := hv 12 15 (by decide) rfl
    have r13 : vs 13 = .pointer (some ⟨c, 0, none⟩) := hv 13 16 (by decide) rfl
    have r14 : vs 14 = .pointer (some ⟨c, 3, none⟩) := hv 14 17 (by decide) rfl
    have r15 : vs 15 = .iface 80 (.pointer (some ⟨c, 3, none⟩)) := hv 15 18 (by decide) rfl
    have r16 : vs 16 = .pointer (some ⟨c, 0, none⟩) := hv 16 19 (by decide) rfl
    have r17 : vs 17 = .pointer (some ⟨c, 0, none⟩) := hv 17 20 (by decide) rfl
    have r18 : vs 18 = .pointer (some ⟨c, 4, none⟩) := hv 18 21 (by decide) rfl
    have r19 : vs 19 = .iface 80 (.pointer (some ⟨c, 4, none⟩)) := hv 19 22 (by decide) rfl
    have r20 : vs 20 = .pointer (some ⟨c, 0, none⟩) := hv 20 23 (by decide) rfl
    have r21 : vs 21 = .pointer (some ⟨c, 0, none⟩) := hv 21 24 (by decide) rfl
    have r22 : vs 22 = .pointer (some ⟨c, 5, none⟩) := hv 22 25 (by decide) rfl
    have r23 : vs 23 = .iface 80 (.pointer (some ⟨c, 5, none⟩)) := hv 23 26 (by decide) rfl
    have r24 : vs 24 = .pointer (some ⟨c, 0, none⟩) := hv 24 27 (by decide) rfl
    have r25 : vs 25 = .pointer (some ⟨c, 0, none⟩) := hv 25 28 (by decide) rfl
    have r26 : vs 26 = .pointer (some ⟨c, 6, none⟩) := hv 26 29 (by decide) rfl
    have r27 : vs 27 = .iface 80 (.pointer (some ⟨c, 6, none⟩)) := hv 27 30 (by decide) rfl
    have r28 : vs 28 = .pointer (some ⟨c, 0, none⟩) := hv 28 31 (by decide) rfl
    have r29 : vs 29 = .pointer (some ⟨c, 0, none⟩) := hv 29 32 (by decide) rfl
    have r30 : vs 30 = .pointer (some ⟨c, 7, none⟩) := hv 30 33 (by decide) rfl
    have r31 : vs 31 = .iface 80 (.pointer (some ⟨c, 7, none⟩)) := hv 31 34 (by decide) rfl
    have r32 : vs 32 = .pointer (some ⟨c, 0, none⟩) := hv 32 35 (by decide) rfl
    have r33 : vs 33 = .pointer (some ⟨c, 0, none⟩) := hv 33 36 (by decide) rfl
    have r34 : vs 34 = .pointer (some ⟨c, 8, none⟩) := hv 34 37 (by decide) rfl
    have r35 : vs 35 = .iface 80 (.pointer (some ⟨c, 8, none⟩)) := hv 35 38 (by decide) rfl
    have r36 : vs 36 = .pointer (some ⟨c, 0, none⟩) := hv 36 39 (by decide) rfl
    have r37 : vs 37 = .pointer (some ⟨c, 0, none⟩) := hv 37 40 (by decide) rfl
    have r38 : vs 38 = .pointer (some ⟨c, 9, none⟩) := hv 38 41 (by decide) rfl
    have r39 : vs 39 = .iface 82 (.pointer (some ⟨c, 9, none⟩)) := hv 39 42 (by decide) rfl
    have r40 : vs 40 = .pointer (some ⟨c, 0, none⟩) := hv 40 43 (by decide) rfl
    have r41 : vs 41 = .pointer (some ⟨c, 0, none⟩) := hv 41 44 (by decide) rfl
    have r42 : vs 42 = .pointer (some ⟨c, 10, none⟩) := hv 42 45 (by decide) rfl
    have r43 : vs 43 = .iface 80 (.pointer (some ⟨c, 10, none⟩)) := hv 43 46 (by decide) rfl
    have r44 : vs 44 = .agg #[.iface 80 (.pointer (some ⟨c, 0, none⟩)), .iface 80 (.pointer (some ⟨c, 1, none⟩)), .iface 80 (.pointer (some ⟨c, 2, none⟩)), .iface 80 (.pointer (some ⟨c, 3, none⟩)), .iface 80 (.pointer (some ⟨c, 4, none⟩)), .iface 80 (.pointer (some ⟨c, 5, none⟩)), .iface 80 (.pointer (some ⟨c, 6, none⟩)), .iface 80 (.pointer (some ⟨c, 7, none⟩)), .iface 80 (.pointer (some ⟨c, 8, none⟩)), .iface 82 (.pointer (some ⟨c, 9, none⟩)), .iface 80 (.pointer (some ⟨c, 10, none⟩))] := hv 44 47 (by decide) rfl
    simp only [List.drop_succ_cons, List.drop_zero, lay, List.foldl_cons, List.foldl_nil, r0, r1, r2, r3, r4, r5, r6, r7, r8, r9, r10, r11, r12, r13, r14, r15, r16, r17, r18, r19, r20, r21, r22, r23, r24, r25, r26, r27, r28, r29, r30, r31, r32, r33, r34, r35, r36, r37, r38, r39, r40, r41, r42, r43, r44]
    simp only [List.setIfInBounds_toArray, List.set_cons_zero, List.set_cons_succ]
    clear hv r0 r1 r2 r3 r4 r5 r6 r7 r8 r9 r10 r11 r12 r13 r14 r15 r16 r17 r18 r19 r20 r21 r22 r23 r24 r25 r26 r27 r28 r29 r30 r31 r32 r33 r34 r35 r36 r37 r38 r39 r40 r41 r42 r43 r44
    clear vs
    have HF := Lib.hid f1
    have hb1 := f1.blk HB.out.1 (by simp)
    have q4 : can11 W1 sb = true := hb1.can11
    have HB1 := Lib.hid hb1
    clear f1 hb1
    have o0 : (Value.iface 80 (.pointer (some ⟨c, 0, none⟩))).oneCell' = true := rfl
    have o1 : (Value.iface 80 (.pointer (some ⟨c, 1, none⟩))).oneCell' = true := rfl
    have o2 : (Value.iface 80 (.pointer (some ⟨c, 2, none⟩))).oneCell' = true := rfl
    have o3 : (Value.iface 80 (.pointer (some ⟨c, 3, none⟩))).oneCell' = true := rfl
    have o4 : (Value.iface 80 (.pointer (some ⟨c, 4, none⟩))).oneCell' = true := rfl
    have o5 : (Value.iface 80 (.pointer (some ⟨c, 5, none⟩))).oneCell' = true := rfl
    have o6 : (Value.iface 80 (.pointer (some ⟨c, 6, none⟩))).oneCell' = true := rfl
    have o7 : (Value.iface 80 (.pointer (some ⟨c, 7, none⟩))).oneCell' = true := rfl
    have o8 : (Value.iface 80 (.pointer (some ⟨c, 8, none⟩))).oneCell' = true := rfl
    have o9 : (Value.iface 82 (.pointer (some ⟨c, 9, none⟩))).oneCell' = true := rfl
    have o10 : (Value.iface 80 (.pointer (some ⟨c, 10, none⟩))).oneCell' = true := rfl
    go_wp2_with fail
    have hl : Fr [sb] W1 (lay11 W1 sb (.iface 80 (.pointer (some ⟨c, 0, none⟩))) (.iface 80 (.pointer (some ⟨c, 1, none⟩))) (.iface 80 (.pointer (some ⟨c, 2, none⟩))) (.iface 80 (.pointer (some ⟨c, 3, none⟩))) (.iface 80 (.pointer (some ⟨c, 4, none⟩))) (.iface 80 (.pointer (some ⟨c, 5, none⟩))) (.iface 80 (.pointer (some ⟨c, 6, none⟩))) (.iface 80 (.pointer (some ⟨c, 7, none⟩))) (.iface 80 (.pointer (some ⟨c, 8, none⟩))) (.iface 82 (.pointer (some ⟨c, 9, none⟩))) (.iface 80 (.pointer (some ⟨c, 10, none⟩)))) := Fr.lay11 _ _ _ _ _ _ _ _ _ _ _ _ _
    refine bodyPost_ret (v := .agg (numsV c)) ?_ rfl ⟨rfl, ?_⟩
    · exact results_100 rfl _ _ sb _ rfl (HB1.out.lay11 _ _ _ _ _ _ _ _ _ _ _)
    · have hz := HB.out.2
      exact (((Fr.refl [] w).alloc _).trans HF.out (by simp)).trans hl (fun x hx => .inr (by simp at hx; omega))
end Sc
end Go.Proofs.YtbpgpjibljgiiaaGreatDoor
