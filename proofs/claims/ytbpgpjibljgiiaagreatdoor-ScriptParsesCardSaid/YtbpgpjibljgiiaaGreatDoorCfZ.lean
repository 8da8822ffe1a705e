/-
  The document's config of eleven fields.
-/
import Derived.Test.YtbpgpjibljgiiaaGreatDoorRefS
import Derived.Test.YtbpgpjibljgiiaaGreatDoorPrM
namespace Go.Proofs.YtbpgpjibljgiiaaGreatDoor
open Go.RowKit
set_option linter.unusedVariables false
set_option linter.unusedSimpArgs false
attribute [local go_sem] Oper.semAt_some
def storeCf (a : Addr) (v : Value) : Sem Unit := storeVar 23 a v
def storeCf' (a : Addr) (v : Value) : Sem Unit := storeVar 23 a v
theorem storeVar23 (a : Addr) (v : Value) : storeVar 23 a v = storeCf a v := rfl
def cfOk (cs : Array Value) : Bool := cs.size == 11 && cs.all (·.oneCell')
set_option maxRecDepth 100000 in
theorem run_storeCf (w : World) (g : Nat) (cs : Array Value) : (storeCf ⟨g, 0, none⟩ (.agg cs)).run Tryz.prog w = bif can11 w g && cfOk cs then .ok () (layA w g cs) else (storeCf' ⟨g, 0, none⟩ (.agg cs)).run Tryz.prog w := by
  cases h : can11 w g && cfOk cs with
  | false => rfl
  | true =>
    rw [Bool.and_eq_true] at h
    unfold cfOk at h
    rw [Bool.and_eq_true] at h
    have ht : w.there g 0 11 := fun j hj => by
      have := List.all_eq_true.1 h.1 j (List.mem_range.2 hj)
      simpa using this
    have hs : cs.size = 11 := by simpa using h.2.1
    rw [cond_true]
    exact run_storeVar_mid (P := Tryz.prog) w g 0 23 cs (by rw [hs]; exact ht) (by rw [hs]; exact info26) h.2.2
theorem can11_of {W : World} {g : Nat} {t : TypeId} {cs : Array Value} (h : Blk W g cs t) (hs : 11 ≤ cs.size) : can11 W g = true := by
  refine List.all_eq_true.2 fun j hj => ?_
  have hj := List.mem_range.1 hj
  rw [h.at (0 + j) (v := cs[0 + j]'(by omega)) (by simp), h.free]
  rfl
namespace Sc
theorem cfOk_ints {l : List Int} (h : l.length = 11) : cfOk (ints l).toArray = true := by
  unfold cfOk
  rw [Bool.and_eq_true]
  refine ⟨by simp [ints, h], Array.all_eq_true'.2 fun x hx => ?_⟩
  simp only [ints, List.mem_toArray, List.mem_map] at hx
  obtain ⟨z, _, rfl⟩ := hx
  rfl
theorem ints_set {l : List Int} (k : Nat) (x : Int) : (ints l).toArray.setIfInBounds k (.int .i64 x) = (ints (l.set k x)).toArray := by
  rw [List.setIfInBounds_toArray]
  simp [ints, List.map_set]
theorem Blk.layCf {W : World} {g : Nat} {t : TypeId} {cfg cfg' : List Int} {v : Value} (h : Blk W g (scrC cfg v) t) (h1 : cfg.length = 11) (h2 : cfg'.length = 11) : Blk (layA W g (ints cfg').toArray) g (scrC cfg' v) t := by
  have := Blk.setCells (W := W) (g := g) (t := t) (ints cfg') 0 (cs := ints cfg ++ [v]) h (by simp [ints, h1, h2])
  unfold layA
  have e : (List.take 0 (ints cfg ++ [v]) ++ ints cfg' ++ List.drop (0 + (ints cfg').length) (ints cfg ++ [v])) = ints cfg' ++ [v] := by
    have : (ints cfg').length = (ints cfg).length := by simp [ints, h1, h2]
    rw [this, Nat.zero_add, List.drop_left]
    simp
  rw [e] at this
  exact this
theorem results_cf {fn : Func} {p : Tmp} (h : fn.results = #[.cell p 23]) (tmps : Array Value) (w : World) (g : Nat) {cfg : List Int} (hl : cfg.length = 11) (hp : tmps.getD p undef = .pointer (some ⟨g, 0, none⟩)) {t : TypeId} (hb : Blk w g (ints cfg).toArray t) :
    (results fn tmps).run Tryz.prog w = .ok (.agg (ints cfg).toArray) w := by
  have hv : (loadVar 23 ⟨g, 0, none⟩).run Tryz.prog w = .ok (.agg (ints cfg).toArray) w := by
    refine run_loadVar_mid (P := Tryz.prog) w g 0 23 (ints cfg) _ (fun j v hv => ?_) Tryz.underlying23 (by simp [ints, hl]) (by rw [show (ints cfg).length = 11 by simp [ints, hl]]; exact info26)
    exact (by simpa using hb.at j (v := v) (by simpa using hv))
  have hp' : tmps[p]?.getD undef = .pointer (some ⟨g, 0, none⟩) := by simpa using hp
  simp [results, h, hp', asAddr, hv, Result.andThen]
end Sc
attribute [local go_sem ↓] storeVar23
attribute [local go_sem] run_storeCf
namespace Sc
theorem numF_scan {F : List ByteArray} {k : Nat} (h : numF F k = none) : k < F.length ∧ scan (fld F k).data.toList = some (numN F k) := by
  unfold numF at h
  split at h
  · rename_i hk
    refine ⟨hk, ?_⟩
    unfold numN
    rw [if_pos hk]
    cases hs : scan (fld F k).data.toList with
    | some v => rfl
    | none => rw [hs] at h; cases h
  · cases h
set_option maxRecDepth 100000 in
set_option maxHeartbeats 8000000 in
theorem rcfg_any (w : World) (gf c : Nat) (F : List ByteArray) (hF : ∀ i s, F[i]? = some s → w.cell? ⟨gf, i, none⟩ = some (.string s)) (hFs : ∀ s ∈ F, s.size ≤ 4294967296) (hl : F.length ≤ 4294967296) (hcap : F.length ≤ c) (hnum : ∀ j, j < 11 → numF F (j + 1) = none) :
    Calls Tryz.prog 17 #[.slice (some ⟨gf, 0, none⟩) F.length c] w fun e w' => e = .returned (.agg (ints (cfgN F)).toArray) ∧ Fr [] w w' := by
  have HF := Lib.hid (And.intro hF (And.intro hFs hnum))
  have h12 := (numF_scan (hnum 10 (by omega))).1
  obtain ⟨N, hN⟩ : ∃ N, N = F.length := ⟨_, rfl⟩
  rw [← hN] at hl hcap h12 ⊢
  have HN := Lib.hid hN
  have kN : (N : Int) ≤ 4294967296 := by omega
  have kc : (N : Int) ≤ (c : Int) := by omega
  have k12 : (12 : Int) ≤ (N : Int) := by omega
  obtain ⟨rb, hrb⟩ : ∃ rb, rb = w.heap.size := ⟨_, rfl⟩
  obtain ⟨w1, hw1⟩ : ∃ w1, w.alloc (.cells #[.int .i64 0, .int .i64 0, .int .i64 0, .int .i64 0, .int .i64 0, .int .i64 0, .int .i64 0, .int .i64 0, .int .i64 0, .int .i64 0, .int .i64 0] 23) = w1 := ⟨_, rfl⟩
  obtain ⟨nb, hnb⟩ : ∃ nb, nb = w1.heap.size := ⟨_, rfl⟩
  obtain ⟨w2, hw2⟩ : ∃ w2, w1.alloc (.cells #[.int .i64 0, .int .i64 0, .int .i64 0, .int .i64 0, .int .i64 0, .int .i64 0, .int .i64 0, .int .i64 0, .int .i64 0, .int .i64 0, .int .i64 0] 98) = w2 := ⟨_, rfl⟩
  have hb1 : Blk w1 rb #[.int .i64 0, .int .i64 0, .int .i64 0, .int .i64 0, .int .i64 0, .int .i64 0, .int .i64 0, .int .i64 0, .int .i64 0, .int .i64 0, .int .i64 0] 23 := by rw [← hw1]; exact Blk.new_at hrb _ _
  have H2 := Lib.hid (show Blk w2 rb (ints zeros).toArray 23 ∧ Blk w2 nb (ints (cfgAt F 0 zeros)).toArray 98 ∧ Fr [] w w2 ∧ rb ≠ nb ∧ w.heap.size ≤ rb ∧ w.heap.size ≤ nb from ⟨by rw [← hw2]; exact hb1.alloc _, by rw [← hw2]; exact Blk.new_at hnb _ _, by rw [← hw2, ← hw1]; exact ((Fr.refl _ _).alloc _).alloc _, by have := hb1.lt; omega, by omega, by rw [hnb, ← hw1]; simp⟩)
  have HW1 := Lib.hid (And.intro hw1 hrb)
  have HW2 := Lib.hid (And.intro hw2 hnb)
  obtain ⟨v0, v1, v2, v3, v4, v5, v6, v7, v8, v9, v10, hcf⟩ := eleven (l := cfgN F) (by simp [cfgN])
  rw [hcf]
  have HCF := Lib.hid hcf
  clear hF hFs hnum hl hcap h12 hN hrb hw1 hnb hw2 hb1 hcf
  go_enter Tryz.func17, Tryz.ntmps17
  go_upto_region 1 with fail
  rw [HW1.out.1, ← HW1.out.2]
  go_upto_region 2 with fail
  rw [HW2.out.1, ← HW2.out.2]
  go_wp2_with fail
  go_loopw [4] (fun iv wr => ∃ i : Nat, iv = .int .i64 i ∧ i ≤ 11 ∧ Blk wr rb (ints zeros).toArray 23 ∧ Blk wr nb (ints (cfgAt F i zeros)).toArray 98 ∧ Fr [] w wr) (fun iv _ => 11 - (match iv with | .int _ q => q.toNat | _ => 0))
  case atStart => exact ⟨0, rfl, Nat.zero_le _, H2.out.1, H2.out.2.1, H2.out.2.2.1⟩
  case round =>
    obtain ⟨i, rfl, hi, hb, hn, hf⟩ := hrel
    obtain ⟨wi, hwi⟩ : ∃ wi : World, wi = wr := ⟨_, rfl⟩
    rw [← hwi] at hb hn hf ⊢
    clear hwi
    have HI := Lib.hid (And.intro hi (And.intro hb (And.intro hn hf)))
    have ki0 : (0 : Int) ≤ (i : Int) := by omega
    have ki1 : (i : Int) ≤ 11 := by omega
    clear hi hb hn hf
    by_cases hlt : i < 11
    · have d1 : (i : Int) < 11 := by omega
      have HLT := Lib.hid hlt
      obtain ⟨s, hs⟩ : ∃ s, s = fld F (i + 1) := ⟨_, rfl⟩
      have hsc := numF_scan (HF.out.2.2 i hlt)
      have hFi : F[i + 1]? = some s := by rw [hs]; unfold fld; rw [List.getD_eq_getElem?_getD, List.getElem?_eq_getElem hsc.1, Option.getD_some]
      have c1 : wi.cell? ⟨gf, 1 + i, none⟩ = some (.string s) := by
        rw [Nat.add_comm]
        exact (HI.out.2.2.2.cell (World.block_lt_of_cell? w _ (HF.out.1 _ _ hFi)) (by simp)).trans (HF.out.1 _ _ hFi)
      have HWH := Lib.hid (whole_any wi s (HF.out.2.1 s (List.mem_of_getElem? hFi)))
      have HSC := Lib.hid (show scan s.data.toList = some (numN F (i + 1)) by rw [hs]; exact hsc.2)
      clear hs hsc hFi hlt
      go_wp2_with fail
      (with_reducible refine HWH.out.mono ?_)
      rintro e w3 ⟨x, rfl, hx, f3⟩
      obtain rfl := hx _ HSC.out
      have hn3 := f3.blk HI.out.2.2.1 (by simp)
      obtain ⟨y, hy⟩ : ∃ y, (ints (cfgAt F i zeros)).toArray[i]? = some y := ⟨_, Array.getElem?_eq_getElem (by have := HLT.out; rw [List.size_toArray]; unfold ints; rw [List.length_map, cfgAt_len (by simp [zeros]; omega)]; simp [zeros]; omega)⟩
      have hin := hn3.at i hy
      have hnf := hn3.free i
      obtain ⟨w4, hw4⟩ : ∃ w4, w3.setCell ⟨nb, i, none⟩ (.int .i64 (numN F (i + 1))) = w4 := ⟨_, rfl⟩
      have H4 := Lib.hid (show Blk w4 rb (ints zeros).toArray 23 ∧ Blk w4 nb (ints (cfgAt F (i + 1) zeros)).toArray 98 ∧ Fr [] w w4 from ⟨by rw [← hw4]; exact (f3.blk HI.out.2.1 (by simp)).other _ _ H2.out.2.2.2.1, by
        rw [← hw4, ← cfgAt_set (F := F) (k := i) (cfg := zeros) (by have := HLT.out; simp [zeros]; omega), ← ints_set]
        exact hn3.set i _, by rw [← hw4]; exact (HI.out.2.2.2.trans f3 (by simp)).setCell _ _ (.inr H2.out.2.2.2.2.2)⟩)
      have HW4 := Lib.hid hw4
      clear hn3 hy hw4 f3 hx c1
      go_upto_region 4 with fail
      rw [HW4.out]
      clear hin hnf
      go_wp2
      exact ⟨⟨i + 1, rfl, HLT.out, H4.out⟩, by have := HLT.out; show 11 - ((i : Int) + 1).toNat < 11 - ((i : Nat) : Int).toNat; omega⟩
    · obtain rfl : i = 11 := by have := HI.out.1; omega
      have d1 : ¬ ((11 : Int) < 11) := by omega
      clear hlt
      have e11 : cfgAt F 11 zeros = [v0, v1, v2, v3, v4, v5, v6, v7, v8, v9, v10] := by rw [← HCF.out]; unfold cfgAt cfgN zeros; simp
      have hn := HI.out.2.2.1
      rw [e11] at hn
      have c0 := hn.at 0 (v := .int .i64 v0) rfl
      have c1 := hn.at 1 (v := .int .i64 v1) rfl
      have c2 := hn.at 2 (v := .int .i64 v2) rfl
      have c3 := hn.at 3 (v := .int .i64 v3) rfl
      have c4 := hn.at 4 (v := .int .i64 v4) rfl
      have c5 := hn.at 5 (v := .int .i64 v5) rfl
      have c6 := hn.at 6 (v := .int .i64 v6) rfl
      have c7 := hn.at 7 (v := .int .i64 v7) rfl
      have c8 := hn.at 8 (v := .int .i64 v8) rfl
      have c9 := hn.at 9 (v := .int .i64 v9) rfl
      have c10 := hn.at 10 (v := .int .i64 v10) rfl
      have q1 := can11_of HI.out.2.1 (by simp [ints, zeros])
      have zo : cfOk #[.int .i64 v0, .int .i64 v1, .int .i64 v2, .int .i64 v3, .int .i64 v4, .int .i64 v5, .int .i64 v6, .int .i64 v7, .int .i64 v8, .int .i64 v9, .int .i64 v10] = true := cfOk_ints (l := [v0, v1, v2, v3, v4, v5, v6, v7, v8, v9, v10]) rfl
      obtain ⟨w4, hw4⟩ : ∃ w4, layA wi rb #[.int .i64 v0, .int .i64 v1, .int .i64 v2, .int .i64 v3, .int .i64 v4, .int .i64 v5, .int .i64 v6, .int .i64 v7, .int .i64 v8, .int .i64 v9, .int .i64 v10] = w4 := ⟨_, rfl⟩
      have H4 := Lib.hid (show Blk w4 rb (ints [v0, v1, v2, v3, v4, v5, v6, v7, v8, v9, v10]).toArray 23 ∧ Fr [] w w4 from ⟨by
        rw [← hw4]
        have := Blk.setCells (W := wi) (g := rb) (t := 23) (ints [v0, v1, v2, v3, v4, v5, v6, v7, v8, v9, v10]) 0 (cs := ints zeros) HI.out.2.1 (by simp [ints, zeros])
        exact this, by rw [← hw4]; exact HI.out.2.2.2.layA _ _ (.inr H2.out.2.2.2.2.1)⟩)
      have HW4 := Lib.hid hw4
      clear hn hw4 e11
      go_wp2
      rw [HW4.out]
      exact bodyPost_ret (results_cf rfl _ _ rb (cfg := [v0, v1, v2, v3, v4, v5, v6, v7, v8, v9, v10]) rfl rfl H4.out.1) rfl ⟨rfl, H4.out.2⟩
end Sc
end Go.Proofs.YtbpgpjibljgiiaaGreatDoor
