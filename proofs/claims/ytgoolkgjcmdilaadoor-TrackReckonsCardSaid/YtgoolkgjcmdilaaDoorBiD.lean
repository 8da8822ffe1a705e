/-
  Sets: Join, Cut, Meet.
-/
import Derived.Test.YtgoolkgjcmdilaaDoorBiC
namespace Go.Proofs.YtgoolkgjcmdilaaDoor
open Go.RowKit
set_option linter.unusedVariables false
set_option linter.unusedSimpArgs false
attribute [local go_sem] Oper.semAt_some

/-- Two sets' members, joined in some way. -/
def zipB (f : Bool → Bool → Bool) (B C : List Bool) : List Bool := (List.range B.length).map fun k => f (B.getD k false) (C.getD k false)
theorem zipB_len (f : Bool → Bool → Bool) (B C : List Bool) : (zipB f B C).length = B.length := by simp [zipB]
theorem zipB_get (f : Bool → Bool → Bool) (hf : f false false = false) (B C : List Bool) (h : B.length = C.length) (k : Nat) : (zipB f B C).getD k false = f (B.getD k false) (C.getD k false) := by
  rcases Nat.lt_or_ge k B.length with hk | hk
  · rw [List.getD_eq_getElem?_getD]
    simp [zipB, List.getElem?_range hk]
  · rw [getD_out _ _ (by rw [zipB_len]; exact hk), getD_out B k hk, getD_out C k (by omega), hf]
/-- What a change does to a word. -/
structure WordOp (f : Bool → Bool → Bool) (op : Nat → Nat → Nat) : Prop where
  z : f false false = false
  lt : ∀ x y, x < 18446744073709551616 → y < 18446744073709551616 → op x y < 18446744073709551616
  bit : ∀ x y j, x < 18446744073709551616 → y < 18446744073709551616 → j < 64 → (op x y).testBit j = f (x.testBit j) (y.testBit j)
def joinF (a b : Bool) : Bool := a || b
def cutF (a b : Bool) : Bool := a && !b
def meetF (a b : Bool) : Bool := a && b
theorem joinOp : WordOp joinF (fun x y => x ||| y) := ⟨rfl, fun x y hx hy => by
  have : x ||| y < 2 ^ 64 := Nat.or_lt_two_pow (by omega) (by omega)
  omega, fun x y j _ _ _ => Nat.testBit_or x y j⟩
theorem cutOp : WordOp cutF (fun x y => x &&& (18446744073709551615 - y)) := ⟨rfl, fun x y hx hy => Nat.lt_of_le_of_lt Nat.and_le_left hx, fun x y j _ hy hj => by
  show (x &&& (18446744073709551615 - y)).testBit j = _
  rw [Nat.testBit_and, not_bit hy hj]; rfl⟩
theorem meetOp : WordOp meetF (fun x y => x &&& y) := ⟨rfl, fun x y hx hy => Nat.lt_of_le_of_lt Nat.and_le_left hx, fun x y j _ _ _ => Nat.testBit_and x y j⟩
/-- The words when the first i are changed. -/
def mixW (op : Nat → Nat → Nat) (ws cs : List Nat) (i : Nat) : List Nat := (List.range ws.length).map fun j => if j < i then op (ws.getD j 0) (cs.getD j 0) else ws.getD j 0
theorem mixW_len (op : Nat → Nat → Nat) (ws cs : List Nat) (i : Nat) : (mixW op ws cs i).length = ws.length := by simp [mixW]
theorem mixW_zero (op : Nat → Nat → Nat) (ws cs : List Nat) : mixW op ws cs 0 = ws := by
  refine List.ext_getElem? fun j => ?_
  rcases Nat.lt_or_ge j ws.length with hj | hj
  · simp [mixW, List.getElem?_range hj, List.getD_eq_getElem?_getD, hj]
  · rw [List.getElem?_eq_none (by rw [mixW_len]; exact hj), List.getElem?_eq_none hj]
theorem mixW_succ (op : Nat → Nat → Nat) (ws cs : List Nat) (i : Nat) (hi : i < ws.length) : mixW op ws cs (i + 1) = (mixW op ws cs i).set i (op (ws.getD i 0) (cs.getD i 0)) := by
  refine List.ext_getElem? fun j => ?_
  rcases Nat.lt_or_ge j ws.length with hj | hj
  · rw [List.getElem?_set]
    by_cases hij : i = j
    · subst hij
      rw [if_pos rfl, mixW_len, if_pos hi]
      simp [mixW, List.getElem?_range hi]
    · rw [if_neg hij]
      simp only [mixW, List.getElem?_map, List.getElem?_range hj, Option.map_some]
      by_cases h1 : j < i
      · rw [if_pos (by omega), if_pos h1]
      · rw [if_neg (by omega), if_neg h1]
  · rw [List.getElem?_eq_none (by rw [mixW_len]; exact hj), List.getElem?_eq_none (by rw [List.length_set, mixW_len]; exact hj)]
theorem mixW_get (op : Nat → Nat → Nat) (ws cs : List Nat) (i j : Nat) (hj : j < ws.length) : (mixW op ws cs i).getD j 0 = if j < i then op (ws.getD j 0) (cs.getD j 0) else ws.getD j 0 := by
  rw [List.getD_eq_getElem?_getD]
  simp [mixW, List.getElem?_range hj]
/-- In the midst of the loop. -/
structure Mix (op : Nat → Nat → Nat) (w : World) (b g c g2 : Nat) (v u : Value) (B C : List Bool) (ws cs : List Nat) (i : Nat) (W : World) : Prop where
  hb : Blk W b #[.int .i64 B.length, v] 90
  hc : Blk W c #[.int .i64 C.length, u] 90
  own : W.ownsRow 0 96 1 v ws.length (wds (mixW op ws cs i))
  rest : ∀ j, i ≤ j → j < cs.length → W.cell? ⟨g2, j, none⟩ = some (.int .u64 (cs.getD j 0 : Nat))
  fr : Fr [g] w W
theorem own_cellw {W : World} {g cap n : Nat} {xs : List Nat} (h : W.ownsRow 0 96 1 (.slice (some ⟨g, 0, none⟩) n cap) n (wds xs)) {i : Nat} (hi : i < xs.length) : W.cell? ⟨g, i, none⟩ = some (.int .u64 (xs.getD i 0 : Nat)) := by
  have := h.cells (g := g) rfl i (.int .u64 (xs.getD i 0 : Nat)) (by simp [wds, List.getD_eq_getElem?_getD, hi])
  rw [Addr.add_lit] at this
  simpa using this
theorem Mix.step {op : Nat → Nat → Nat} {w W : World} {b g c g2 cap : Nat} {u : Value} {B C : List Bool} {ws cs : List Nat} {i : Nat} (h : Mix op w b g c g2 (.slice (some ⟨g, 0, none⟩) ws.length cap) u B C ws cs i W) (hi : i < ws.length) :
    Mix op w b g c g2 (.slice (some ⟨g, 0, none⟩) ws.length cap) u B C ws cs (i + 1) (W.setCell ⟨g, i, none⟩ (.int .u64 (op (ws.getD i 0) (cs.getD i 0) : Nat))) := by
  have hbg : b ≠ g := fun e => by subst e; exact own_notin h.own h.hb (by decide) (by simp [Value.ownBlock])
  have hcg : c ≠ g := fun e => by subst e; exact own_notin h.own h.hc (by decide) (by simp [Value.ownBlock])
  refine ⟨h.hb.other _ _ hbg, h.hc.other _ _ hcg, ?_, fun j hj hjl => ?_, h.fr.setCell _ _ (.inl (by simp))⟩
  · have e : wds (mixW op ws cs (i + 1)) = (wds (mixW op ws cs i)).set i (.int .u64 (op (ws.getD i 0) (cs.getD i 0) : Nat)) := by rw [mixW_succ op ws cs i hi]; simp [wds, List.map_set]
    rw [e]
    exact own_set h.own rfl _ _ (by simp [wds, mixW_len]; exact hi)
  · refine (World.cell?_setCell_other _ _ _ _ (fun e => ?_)).trans (h.rest j (by omega) hjl)
    have e2 := congrArg Addr.off e
    dsimp only at e2
    omega
/-- Behind the loop it is a set again. -/
theorem Mix.done {f : Bool → Bool → Bool} {op : Nat → Nat → Nat} (ho : WordOp f op) {w W : World} {b g c g2 : Nat} {v u : Value} {B C : List Bool} {ws cs : List Nat} (hB : BitsAt w b v B ws) (hC : BitsAt w c u C cs) (hl : B.length = C.length) (h : Mix op w b g c g2 v u B C ws cs ws.length W) :
    BitsAt W b v (zipB f B C) (mixW op ws cs ws.length) := by
  have hcl : cs.length = ws.length := by rw [hB.len, hC.len, hl]
  refine ⟨by rw [zipB_len]; exact h.hb, by rw [mixW_len]; exact h.own, hB.nn, by rw [mixW_len, zipB_len]; exact hB.len, fun x hx => ?_, fun i j hj => ?_, by rw [zipB_len]; exact hB.lim⟩
  · obtain ⟨j, hj⟩ := List.mem_iff_getElem?.1 hx
    have hjl : j < ws.length := by have := (List.getElem?_eq_some_iff.1 hj).1; rwa [mixW_len] at this
    have h2 := mixW_get op ws cs ws.length j hjl
    rw [List.getD_eq_getElem?_getD, hj, if_pos hjl] at h2
    have h3 : x = op (ws.getD j 0) (cs.getD j 0) := h2
    rw [h3]
    exact ho.lt _ _ (hB.word j) (hC.word j)
  · rw [zipB_get f ho.z B C hl]
    rcases Nat.lt_or_ge i ws.length with hi | hi
    · rw [mixW_get op ws cs ws.length i hi, if_pos hi, ho.bit _ _ _ (hB.word i) (hC.word i) hj, hB.bits i j hj, hC.bits i j hj]
    · have e1 : (mixW op ws cs ws.length).getD i 0 = 0 := by rw [List.getD_eq_getElem?_getD, List.getElem?_eq_none (by rw [mixW_len]; exact hi)]; rfl
      rw [e1, ← hB.bits i j hj, ← hC.bits i j hj]
      have e2 : ws.getD i 0 = 0 := by rw [List.getD_eq_getElem?_getD, List.getElem?_eq_none hi]; rfl
      have e3 : cs.getD i 0 = 0 := by rw [List.getD_eq_getElem?_getD, List.getElem?_eq_none (by omega)]; rfl
      rw [e2, e3]
      simp [ho.z]
/-- What becomes of two sets of which one is changed by the other. -/
def WithP (f : Bool → Bool → Bool) (w : World) (b : Nat) (v : Value) (B C : List Bool) (e : Ending) (w' : World) : Prop :=
  e = .returned (.int .i64 0) ∧ ∃ ws', BitsAt w' b v (zipB f B C) ws' ∧ Fr v.ownBlock.toList w w'
theorem with_ne (w : World) (b c : Nat) (v u : Value) (B C : List Bool) (ws cs : List Nat) (k : Value) (hB : BitsAt w b v B ws) (hC : BitsAt w c u C cs) (hl : B.length ≠ C.length) :
    Calls Tryd.prog 86 #[.pointer (some ⟨b, 0, none⟩), .pointer (some ⟨c, 0, none⟩), k] w fun e w' => e = .returned (.int .i64 2) ∧ Fr [] w w' := by
  have H1 := Lib.hid (blive_any w b v B ws hB)
  have H2 := Lib.hid (blive_any w c u C cs hC)
  have b0 := hB.hd.at 0 (v := .int .i64 B.length) rfl
  have c0 := hC.hd.at 0 (v := .int .i64 C.length) rfl
  obtain ⟨n, hn⟩ : ∃ n, n = B.length := ⟨_, rfl⟩
  obtain ⟨m, hm⟩ : ∃ m, m = C.length := ⟨_, rfl⟩
  rw [← hn] at b0 hl
  rw [← hm] at c0 hl
  have hne : ¬ (n : Int) = (m : Int) := by omega
  clear hB hC hn hm hl
  go_enter Tryd.func86, Tryd.ntmps86
  go_wp2_with fail
  (with_reducible refine (H1.out).mono ?_)
  rintro e w1 ⟨rfl, rfl⟩
  go_wp2_with fail
  (with_reducible refine (H2.out).mono ?_)
  rintro e w1 ⟨rfl, rfl⟩
  go_wp2_with fail
  go_region
  simp only [Exit.then]
  go_wp2_with fail
  refine bodyPost_ret (v := .int .i64 2) (by simp [results, Tryd.results86, go_sem]) rfl ⟨rfl, ?_⟩
  first | exact (Fr.refl [] w) | exact (Fr.refl [] w).drew

theorem join1_any (w : World) (g i x y : Nat) (hx : x < 18446744073709551616) (hy : y < 18446744073709551616) (c : w.cell? ⟨g, i, none⟩ = some (.int .u64 (x : Nat))) (fz : w.frozen? ⟨g, i, none⟩ = false) :
    Calls Tryd.prog 87 #[.pointer (some ⟨g, i, none⟩), .int .u64 (y : Nat)] w fun e w' => (∃ v, e = .returned v) ∧ w' = w.setCell ⟨g, i, none⟩ (.int .u64 ((fun x y => x ||| y) x y : Nat)) := by
  have he : bits BinOp.or IntKind.u64 (x : Int) (y : Int) = (((fun x y => x ||| y) x y : Nat) : Int) := bits_or_u64_nat _ _ hx hy
  dsimp only at he ⊢
  go_enter Tryd.func87, Tryd.ntmps87
  go_wp2
  go_end0
  exact ⟨⟨_, rfl⟩, rfl⟩
set_option maxRecDepth 100000 in
set_option maxHeartbeats 1000000 in
theorem joinW_any (w : World) (b c : Nat) (v u : Value) (B C : List Bool) (ws cs : List Nat) (hB : BitsAt w b v B ws) (hC : BitsAt w c u C cs) (hl : B.length = C.length) :
    Calls Tryd.prog 86 #[.pointer (some ⟨b, 0, none⟩), .pointer (some ⟨c, 0, none⟩), .func (.func 87) #[] #[]] w (WithP joinF w b v B C) := by
  have HB := Lib.hid hB
  have HC := Lib.hid hC
  have H1 := Lib.hid (blive_any w b v B ws hB)
  have H2 := Lib.hid (blive_any w c u C cs hC)
  have b0 := hB.hd.at 0 (v := .int .i64 B.length) rfl
  have c0 := hC.hd.at 0 (v := .int .i64 C.length) rfl
  obtain ⟨g, cap, rfl, _, _, _, _, _⟩ := hB.row
  obtain ⟨g2, cap2, rfl, _, _, _, _, h5⟩ := hC.row
  have c1 := hC.hd.at 1 (v := .slice (some ⟨g2, 0, none⟩) cs.length cap2) rfl
  have hcl : cs.length = ws.length := by rw [hB.len, hC.len, hl]
  have hM : Mix (fun x y => x ||| y) w b g c g2 (.slice (some ⟨g, 0, none⟩) ws.length cap) (.slice (some ⟨g2, 0, none⟩) cs.length cap2) B C ws cs 0 w := ⟨hB.hd, hC.hd, by rw [mixW_zero]; exact hB.own, fun j _ hj => h5 j hj, Fr.refl _ _⟩
  have HM := Lib.hid hM
  obtain ⟨n, hn⟩ : ∃ n, n = B.length := ⟨_, rfl⟩
  obtain ⟨m, hm⟩ : ∃ m, m = cs.length := ⟨_, rfl⟩
  have hm6 : m ≤ 1024 := by rw [hm, hC.len]; have := hC.lim; omega
  rw [← hl, ← hn] at c0
  rw [← hn] at b0
  rw [← hm] at c1
  have HN := Lib.hid (And.intro hn (And.intro hm (And.intro hcl hl)))
  clear hB hC hM hn hm hcl hl h5
  go_enter Tryd.func86, Tryd.ntmps86
  go_wp2_with fail
  (with_reducible refine (H1.out).mono ?_)
  rintro e w1 ⟨rfl, rfl⟩
  go_wp2_with fail
  (with_reducible refine (H2.out).mono ?_)
  rintro e w1 ⟨rfl, rfl⟩
  go_wp2_with fail
  go_region
  simp only [Exit.then]
  go_wp2_with fail
  go_loopw [33] (fun iv wr => ∃ i : Nat, iv = .int .i64 i ∧ i ≤ m ∧ Mix (fun x y => x ||| y) w b g c g2 (.slice (some ⟨g, 0, none⟩) ws.length cap) (.slice (some ⟨g2, 0, none⟩) cs.length cap2) B C ws cs i wr) (fun iv _ => m - (intOf iv).toNat)
  case atStart => exact ⟨0, rfl, Nat.zero_le _, ⟨HM.out.hb, HM.out.hc, HM.out.own, HM.out.rest, HM.out.fr.drew⟩⟩
  case round =>
    obtain ⟨i, rfl, hi, hMi⟩ := hrel
    obtain ⟨wi, hwi⟩ : ∃ wi : World, wi = wr := ⟨_, rfl⟩
    rw [← hwi] at hMi ⊢
    clear hwi wr
    by_cases him : i < m
    · have hic : i < cs.length := by rw [← HN.out.2.1]; exact him
      have hiw : i < ws.length := by rw [← HN.out.2.2.1]; exact hic
      have k0 := hMi.rest i (Nat.le_refl _) hic
      have k1 := own_cellw hMi.own (i := i) (by rw [mixW_len]; exact hiw)
      rw [mixW_get _ _ _ _ _ hiw, if_neg (by omega)] at k1
      have k2 := hMi.hb.at 1 (v := .slice (some ⟨g, 0, none⟩) ws.length cap) rfl
      have fz := hMi.own.frozenAt i
      have hst := hMi.step hiw
      obtain ⟨x, hx⟩ : ∃ x, x = ws.getD i 0 := ⟨_, rfl⟩
      obtain ⟨y, hy⟩ : ∃ y, y = cs.getD i 0 := ⟨_, rfl⟩
      have hxl : x < 18446744073709551616 := by rw [hx]; exact HB.out.word i
      have hyl : y < 18446744073709551616 := by rw [hy]; exact HC.out.word i
      rw [← hx] at k1 hst
      rw [← hy] at k0 hst
      have HW := Lib.hid (join1_any wi g i x y hxl hyl k1 fz)
      have HS := Lib.hid hst
      have hwm : ws.length = m := by rw [HN.out.2.1, HN.out.2.2.1]
      rw [hwm] at k2
      have g0 : (0 : Int) ≤ (i : Int) := by omega
      have g1 : (i : Int) < (m : Int) := by omega
      clear hst hx hy hxl hyl hMi hic hiw k1 hwm fz
      go_wp2_with fail
      (with_reducible refine (HW.out).mono ?_)
      rintro e w1 ⟨⟨v9, rfl⟩, rfl⟩
      go_wp2_with fail
      refine ⟨⟨i + 1, by go_num, by omega, HS.out⟩, by simp [intOf]; omega⟩
    · obtain rfl : i = m := by omega
      have HMi := Lib.hid hMi
      clear hMi
      go_wp2_with fail
      have hwm : ws.length = i := by rw [HN.out.2.1, HN.out.2.2.1]
      have hd := HMi.out
      rw [← hwm] at hd
      refine bodyPost_ret (v := .int .i64 0) (by simp [results, Tryd.results86, go_sem]) rfl ⟨rfl, _, Mix.done joinOp HB.out HC.out HN.out.2.2.2 hd, hd.fr⟩
theorem join_any (w : World) (b c : Nat) (v u : Value) (B C : List Bool) (ws cs : List Nat) (hB : BitsAt w b v B ws) (hC : BitsAt w c u C cs) (hl : B.length = C.length) :
    Calls Tryd.prog 31 #[.pointer (some ⟨b, 0, none⟩), .pointer (some ⟨c, 0, none⟩)] w (WithP joinF w b v B C) := by
  have HL := Lib.hid (joinW_any w b c v u B C ws cs hB hC hl)
  clear hB hC hl
  go_enter Tryd.func31, Tryd.ntmps31
  go_wp2_with fail
  (with_reducible refine (HL.out).mono ?_)
  rintro e w1 ⟨rfl, ws', h1, h2⟩
  have HA := Lib.hid (And.intro h1 h2)
  clear h1 h2
  go_wp2_with fail
  go_ret
  exact ⟨rfl, ws', HA.out.1, HA.out.2⟩
theorem join_ne (w : World) (b c : Nat) (v u : Value) (B C : List Bool) (ws cs : List Nat) (hB : BitsAt w b v B ws) (hC : BitsAt w c u C cs) (hl : B.length ≠ C.length) :
    Calls Tryd.prog 31 #[.pointer (some ⟨b, 0, none⟩), .pointer (some ⟨c, 0, none⟩)] w fun e w' => e = .returned (.int .i64 2) ∧ Fr [] w w' := by
  have HL := Lib.hid (with_ne w b c v u B C ws cs (.func (.func 87) #[] #[]) hB hC hl)
  clear hB hC hl
  go_enter Tryd.func31, Tryd.ntmps31
  go_wp2_with fail
  (with_reducible refine (HL.out).mono ?_)
  rintro e w1 ⟨rfl, h1⟩
  have HA := Lib.hid h1
  clear h1
  go_wp2_with fail
  go_ret
  exact ⟨rfl, HA.out⟩

theorem cut1_any (w : World) (g i x y : Nat) (hx : x < 18446744073709551616) (hy : y < 18446744073709551616) (c : w.cell? ⟨g, i, none⟩ = some (.int .u64 (x : Nat))) (fz : w.frozen? ⟨g, i, none⟩ = false) :
    Calls Tryd.prog 89 #[.pointer (some ⟨g, i, none⟩), .int .u64 (y : Nat)] w fun e w' => (∃ v, e = .returned v) ∧ w' = w.setCell ⟨g, i, none⟩ (.int .u64 ((fun x y => x &&& (18446744073709551615 - y)) x y : Nat)) := by
  have he : bits BinOp.andNot IntKind.u64 (x : Int) (y : Int) = (((fun x y => x &&& (18446744073709551615 - y)) x y : Nat) : Int) := andnot_nat _ _ hx hy
  dsimp only at he ⊢
  go_enter Tryd.func89, Tryd.ntmps89
  go_wp2
  go_end0
  exact ⟨⟨_, rfl⟩, rfl⟩
set_option maxRecDepth 100000 in
set_option maxHeartbeats 1000000 in
theorem cutW_any (w : World) (b c : Nat) (v u : Value) (B C : List Bool) (ws cs : List Nat) (hB : BitsAt w b v B ws) (hC : BitsAt w c u C cs) (hl : B.length = C.length) :
    Calls Tryd.prog 86 #[.pointer (some ⟨b, 0, none⟩), .pointer (some ⟨c, 0, none⟩), .func (.func 89) #[] #[]] w (WithP cutF w b v B C) := by
  have HB := Lib.hid hB
  have HC := Lib.hid hC
  have H1 := Lib.hid (blive_any w b v B ws hB)
  have H2 := Lib.hid (blive_any w c u C cs hC)
  have b0 := hB.hd.at 0 (v := .int .i64 B.length) rfl
  have c0 := hC.hd.at 0 (v := .int .i64 C.length) rfl
  obtain ⟨g, cap, rfl, _, _, _, _, _⟩ := hB.row
  obtain ⟨g2, cap2, rfl, _, _, _, _, h5⟩ := hC.row
  have c1 := hC.hd.at 1 (v := .slice (some ⟨g2, 0, none⟩) cs.length cap2) rfl
  have hcl : cs.length = ws.length := by rw [hB.len, hC.len, hl]
  have hM : Mix (fun x y => x &&& (18446744073709551615 - y)) w b g c g2 (.slice (some ⟨g, 0, none⟩) ws.length cap) (.slice (some ⟨g2, 0, none⟩) cs.length cap2) B C ws cs 0 w := ⟨hB.hd, hC.hd, by rw [mixW_zero]; exact hB.own, fun j _ hj => h5 j hj, Fr.refl _ _⟩
  have HM := Lib.hid hM
  obtain ⟨n, hn⟩ : ∃ n, n = B.length := ⟨_, rfl⟩
  obtain ⟨m, hm⟩ : ∃ m, m = cs.length := ⟨_, rfl⟩
  have hm6 : m ≤ 1024 := by rw [hm, hC.len]; have := hC.lim; omega
  rw [← hl, ← hn] at c0
  rw [← hn] at b0
  rw [← hm] at c1
  have HN := Lib.hid (And.intro hn (And.intro hm (And.intro hcl hl)))
  clear hB hC hM hn hm hcl hl h5
  go_enter Tryd.func86, Tryd.ntmps86
  go_wp2_with fail
  (with_reducible refine (H1.out).mono ?_)
  rintro e w1 ⟨rfl, rfl⟩
  go_wp2_with fail
  (with_reducible refine (H2.out).mono ?_)
  rintro e w1 ⟨rfl, rfl⟩
  go_wp2_with fail
  go_region
  simp only [Exit.then]
  go_wp2_with fail
  go_loopw [33] (fun iv wr => ∃ i : Nat, iv = .int .i64 i ∧ i ≤ m ∧ Mix (fun x y => x &&& (18446744073709551615 - y)) w b g c g2 (.slice (some ⟨g, 0, none⟩) ws.length cap) (.slice (some ⟨g2, 0, none⟩) cs.length cap2) B C ws cs i wr) (fun iv _ => m - (intOf iv).toNat)
  case atStart => exact ⟨0, rfl, Nat.zero_le _, ⟨HM.out.hb, HM.out.hc, HM.out.own, HM.out.rest, HM.out.fr.drew⟩⟩
  case round =>
    obtain ⟨i, rfl, hi, hMi⟩ := hrel
    obtain ⟨wi, hwi⟩ : ∃ wi : World, wi = wr := ⟨_, rfl⟩
    rw [← hwi] at hMi ⊢
    clear hwi wr
    by_cases him : i < m
    · have hic : i < cs.length := by rw [← HN.out.2.1]; exact him
      have hiw : i < ws.length := by rw [← HN.out.2.2.1]; exact hic
      have k0 := hMi.rest i (Nat.le_refl _) hic
      have k1 := own_cellw hMi.own (i := i) (by rw [mixW_len]; exact hiw)
      rw [mixW_get _ _ _ _ _ hiw, if_neg (by omega)] at k1
      have k2 := hMi.hb.at 1 (v := .slice (some ⟨g, 0, none⟩) ws.length cap) rfl
      have fz := hMi.own.frozenAt i
      have hst := hMi.step hiw
      obtain ⟨x, hx⟩ : ∃ x, x = ws.getD i 0 := ⟨_, rfl⟩
      obtain ⟨y, hy⟩ : ∃ y, y = cs.getD i 0 := ⟨_, rfl⟩
      have hxl : x < 18446744073709551616 := by rw [hx]; exact HB.out.word i
      have hyl : y < 18446744073709551616 := by rw [hy]; exact HC.out.word i
      rw [← hx] at k1 hst
      rw [← hy] at k0 hst
      have HW := Lib.hid (cut1_any wi g i x y hxl hyl k1 fz)
      have HS := Lib.hid hst
      have hwm : ws.length = m := by rw [HN.out.2.1, HN.out.2.2.1]
      rw [hwm] at k2
      have g0 : (0 : Int) ≤ (i : Int) := by omega
      have g1 : (i : Int) < (m : Int) := by omega
      clear hst hx hy hxl hyl hMi hic hiw k1 hwm fz
      go_wp2_with fail
      (with_reducible refine (HW.out).mono ?_)
      rintro e w1 ⟨⟨v9, rfl⟩, rfl⟩
      go_wp2_with fail
      refine ⟨⟨i + 1, by go_num, by omega, HS.out⟩, by simp [intOf]; omega⟩
    · obtain rfl : i = m := by omega
      have HMi := Lib.hid hMi
      clear hMi
      go_wp2_with fail
      have hwm : ws.length = i := by rw [HN.out.2.1, HN.out.2.2.1]
      have hd := HMi.out
      rw [← hwm] at hd
      refine bodyPost_ret (v := .int .i64 0) (by simp [results, Tryd.results86, go_sem]) rfl ⟨rfl, _, Mix.done cutOp HB.out HC.out HN.out.2.2.2 hd, hd.fr⟩
theorem cut_any (w : World) (b c : Nat) (v u : Value) (B C : List Bool) (ws cs : List Nat) (hB : BitsAt w b v B ws) (hC : BitsAt w c u C cs) (hl : B.length = C.length) :
    Calls Tryd.prog 33 #[.pointer (some ⟨b, 0, none⟩), .pointer (some ⟨c, 0, none⟩)] w (WithP cutF w b v B C) := by
  have HL := Lib.hid (cutW_any w b c v u B C ws cs hB hC hl)
  clear hB hC hl
  go_enter Tryd.func33, Tryd.ntmps33
  go_wp2_with fail
  (with_reducible refine (HL.out).mono ?_)
  rintro e w1 ⟨rfl, ws', h1, h2⟩
  have HA := Lib.hid (And.intro h1 h2)
  clear h1 h2
  go_wp2_with fail
  go_ret
  exact ⟨rfl, ws', HA.out.1, HA.out.2⟩
theorem cut_ne (w : World) (b c : Nat) (v u : Value) (B C : List Bool) (ws cs : List Nat) (hB : BitsAt w b v B ws) (hC : BitsAt w c u C cs) (hl : B.length ≠ C.length) :
    Calls Tryd.prog 33 #[.pointer (some ⟨b, 0, none⟩), .pointer (some ⟨c, 0, none⟩)] w fun e w' => e = .returned (.int .i64 2) ∧ Fr [] w w' := by
  have HL := Lib.hid (with_ne w b c v u B C ws cs (.func (.func 89) #[] #[]) hB hC hl)
  clear hB hC hl
  go_enter Tryd.func33, Tryd.ntmps33
  go_wp2_with fail
  (with_reducible refine (HL.out).mono ?_)
  rintro e w1 ⟨rfl, h1⟩
  have HA := Lib.hid h1
  clear h1
  go_wp2_with fail
  go_ret
  exact ⟨rfl, HA.out⟩

theorem meet1_any (w : World) (g i x y : Nat) (hx : x < 18446744073709551616) (hy : y < 18446744073709551616) (c : w.cell? ⟨g, i, none⟩ = some (.int .u64 (x : Nat))) (fz : w.frozen? ⟨g, i, none⟩ = false) :
    Calls Tryd.prog 88 #[.pointer (some ⟨g, i, none⟩), .int .u64 (y : Nat)] w fun e w' => (∃ v, e = .returned v) ∧ w' = w.setCell ⟨g, i, none⟩ (.int .u64 ((fun x y => x &&& y) x y : Nat)) := by
  have he : bits BinOp.and IntKind.u64 (x : Int) (y : Int) = (((fun x y => x &&& y) x y : Nat) : Int) := bits_and_u64_nat _ _ hx hy
  dsimp only at he ⊢
  go_enter Tryd.func88, Tryd.ntmps88
  go_wp2
  go_end0
  exact ⟨⟨_, rfl⟩, rfl⟩
set_option maxRecDepth 100000 in
set_option maxHeartbeats 1000000 in
theorem meetW_any (w : World) (b c : Nat) (v u : Value) (B C : List Bool) (ws cs : List Nat) (hB : BitsAt w b v B ws) (hC : BitsAt w c u C cs) (hl : B.length = C.length) :
    Calls Tryd.prog 86 #[.pointer (some ⟨b, 0, none⟩), .pointer (some ⟨c, 0, none⟩), .func (.func 88) #[] #[]] w (WithP meetF w b v B C) := by
  have HB := Lib.hid hB
  have HC := Lib.hid hC
  have H1 := Lib.hid (blive_any w b v B ws hB)
  have H2 := Lib.hid (blive_any w c u C cs hC)
  have b0 := hB.hd.at 0 (v := .int .i64 B.length) rfl
  have c0 := hC.hd.at 0 (v := .int .i64 C.length) rfl
  obtain ⟨g, cap, rfl, _, _, _, _, _⟩ := hB.row
  obtain ⟨g2, cap2, rfl, _, _, _, _, h5⟩ := hC.row
  have c1 := hC.hd.at 1 (v := .slice (some ⟨g2, 0, none⟩) cs.length cap2) rfl
  have hcl : cs.length = ws.length := by rw [hB.len, hC.len, hl]
  have hM : Mix (fun x y => x &&& y) w b g c g2 (.slice (some ⟨g, 0, none⟩) ws.length cap) (.slice (some ⟨g2, 0, none⟩) cs.length cap2) B C ws cs 0 w := ⟨hB.hd, hC.hd, by rw [mixW_zero]; exact hB.own, fun j _ hj => h5 j hj, Fr.refl _ _⟩
  have HM := Lib.hid hM
  obtain ⟨n, hn⟩ : ∃ n, n = B.length := ⟨_, rfl⟩
  obtain ⟨m, hm⟩ : ∃ m, m = cs.length := ⟨_, rfl⟩
  have hm6 : m ≤ 1024 := by rw [hm, hC.len]; have := hC.lim; omega
  rw [← hl, ← hn] at c0
  rw [← hn] at b0
  rw [← hm] at c1
  have HN := Lib.hid (And.intro hn (And.intro hm (And.intro hcl hl)))
  clear hB hC hM hn hm hcl hl h5
  go_enter Tryd.func86, Tryd.ntmps86
  go_wp2_with fail
  (with_reducible refine (H1.out).mono ?_)
  rintro e w1 ⟨rfl, rfl⟩
  go_wp2_with fail
  (with_reducible refine (H2.out).mono ?_)
  rintro e w1 ⟨rfl, rfl⟩
  go_wp2_with fail
  go_region
  simp only [Exit.then]
  go_wp2_with fail
  go_loopw [33] (fun iv wr => ∃ i : Nat, iv = .int .i64 i ∧ i ≤ m ∧ Mix (fun x y => x &&& y) w b g c g2 (.slice (some ⟨g, 0, none⟩) ws.length cap) (.slice (some ⟨g2, 0, none⟩) cs.length cap2) B C ws cs i wr) (fun iv _ => m - (intOf iv).toNat)
  case atStart => exact ⟨0, rfl, Nat.zero_le _, ⟨HM.out.hb, HM.out.hc, HM.out.own, HM.out.rest, HM.out.fr.drew⟩⟩
  case round =>
    obtain ⟨i, rfl, hi, hMi⟩ := hrel
    obtain ⟨wi, hwi⟩ : ∃ wi : World, wi = wr := ⟨_, rfl⟩
    rw [← hwi] at hMi ⊢
    clear hwi wr
    by_cases him : i < m
    · have hic : i < cs.length := by rw [← HN.out.2.1]; exact him
      have hiw : i < ws.length := by rw [← HN.out.2.2.1]; exact hic
      have k0 := hMi.rest i (Nat.le_refl _) hic
      have k1 := own_cellw hMi.own (i := i) (by rw [mixW_len]; exact hiw)
      rw [mixW_get _ _ _ _ _ hiw, if_neg (by omega)] at k1
      have k2 := hMi.hb.at 1 (v := .slice (some ⟨g, 0, none⟩) ws.length cap) rfl
      have fz := hMi.own.frozenAt i
      have hst := hMi.step hiw
      obtain ⟨x, hx⟩ : ∃ x, x = ws.getD i 0 := ⟨_, rfl⟩
      obtain ⟨y, hy⟩ : ∃ y, y = cs.getD i 0 := ⟨_, rfl⟩
      have hxl : x < 18446744073709551616 := by rw [hx]; exact HB.out.word i
      have hyl : y < 18446744073709551616 := by rw [hy]; exact HC.out.word i
      rw [← hx] at k1 hst
      rw [← hy] at k0 hst
      have HW := Lib.hid (meet1_any wi g i x y hxl hyl k1 fz)
      have HS := Lib.hid hst
      have hwm : ws.length = m := by rw [HN.out.2.1, HN.out.2.2.1]
      rw [hwm] at k2
      have g0 : (0 : Int) ≤ (i : Int) := by omega
      have g1 : (i : Int) < (m : Int) := by omega
      clear hst hx hy hxl hyl hMi hic hiw k1 hwm fz
      go_wp2_with fail
      (with_reducible refine (HW.out).mono ?_)
      rintro e w1 ⟨⟨v9, rfl⟩, rfl⟩
      go_wp2_with fail
      refine ⟨⟨i + 1, by go_num, by omega, HS.out⟩, by simp [intOf]; omega⟩
    · obtain rfl : i = m := by omega
      have HMi := Lib.hid hMi
      clear hMi
      go_wp2_with fail
      have hwm : ws.length = i := by rw [HN.out.2.1, HN.out.2.2.1]
      have hd := HMi.out
      rw [← hwm] at hd
      refine bodyPost_ret (v := .int .i64 0) (by simp [results, Tryd.results86, go_sem]) rfl ⟨rfl, _, Mix.done meetOp HB.out HC.out HN.out.2.2.2 hd, hd.fr⟩
theorem meet_any (w : World) (b c : Nat) (v u : Value) (B C : List Bool) (ws cs : List Nat) (hB : BitsAt w b v B ws) (hC : BitsAt w c u C cs) (hl : B.length = C.length) :
    Calls Tryd.prog 32 #[.pointer (some ⟨b, 0, none⟩), .pointer (some ⟨c, 0, none⟩)] w (WithP meetF w b v B C) := by
  have HL := Lib.hid (meetW_any w b c v u B C ws cs hB hC hl)
  clear hB hC hl
  go_enter Tryd.func32, Tryd.ntmps32
  go_wp2_with fail
  (with_reducible refine (HL.out).mono ?_)
  rintro e w1 ⟨rfl, ws', h1, h2⟩
  have HA := Lib.hid (And.intro h1 h2)
  clear h1 h2
  go_wp2_with fail
  go_ret
  exact ⟨rfl, ws', HA.out.1, HA.out.2⟩
theorem meet_ne (w : World) (b c : Nat) (v u : Value) (B C : List Bool) (ws cs : List Nat) (hB : BitsAt w b v B ws) (hC : BitsAt w c u C cs) (hl : B.length ≠ C.length) :
    Calls Tryd.prog 32 #[.pointer (some ⟨b, 0, none⟩), .pointer (some ⟨c, 0, none⟩)] w fun e w' => e = .returned (.int .i64 2) ∧ Fr [] w w' := by
  have HL := Lib.hid (with_ne w b c v u B C ws cs (.func (.func 88) #[] #[]) hB hC hl)
  clear hB hC hl
  go_enter Tryd.func32, Tryd.ntmps32
  go_wp2_with fail
  (with_reducible refine (HL.out).mono ?_)
  rintro e w1 ⟨rfl, h1⟩
  have HA := Lib.hid h1
  clear h1
  go_wp2_with fail
  go_ret
  exact ⟨rfl, HA.out⟩
end Go.Proofs.YtgoolkgjcmdilaaDoor
