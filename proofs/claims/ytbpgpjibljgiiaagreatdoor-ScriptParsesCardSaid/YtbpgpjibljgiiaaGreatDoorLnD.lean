/-
  Script, plain: the line of a step. No program stands here. Script: numbers and joins of the library, for a step's line. Script: the line of a step. Printed by genLn.py. Script: the line of a command. Printed by genLc.py. Script: Line, of any step.
-/
import Derived.Test.YtbpgpjibljgiiaaGreatDoorReaB
namespace Go.Proofs.YtbpgpjibljgiiaaGreatDoor
open Go.RowKit Lib
set_option linter.unusedVariables false
set_option linter.unusedSimpArgs false
namespace Sc
/-- What stands behind the words. -/
def tailL (s : St) : List ByteArray :=
  match s.kd with
  | 1 => [strOfNums (hexN s.by')]
  | 2 => [numT s.la]
  | 3 => []
  | 4 => []
  | _ => [numT s.sl, numT s.pl]
def lineL (s : St) : List ByteArray := wordsL s.kd ++ tailL s
def joinT (L : List ByteArray) : ByteArray := ⟨(Lib.join (L.map (·.data.toList)) [32]).toArray⟩
def lineT (s : St) : ByteArray := joinT (lineL s)
/-- The code of a step's line, and the line. -/
def lineE (s : St) : Int := if mayS s = false then 284 else if s.kd = 1 ∧ 2097152 < s.by'.length then 4 else if 4194304 < (lineT s).size then 4 else 0
def lineX (s : St) : ByteArray := if lineE s = 0 then lineT s else ⟨#[]⟩
theorem joinTail_nil (sep : List UInt8) : Lib.joinTail sep [] = [] := rfl
theorem joinTail_cons (sep x : List UInt8) (r : List (List UInt8)) : Lib.joinTail sep (x :: r) = sep ++ x ++ Lib.joinTail sep r := by unfold Lib.joinTail; rw [List.map_cons, List.flatten_cons]
theorem join_words {k : Nat} (h : 1 ≤ k ∧ k ≤ 10) (T : List ByteArray) : (joinT (wordsL k ++ T)).data.toList = (wrdB k).1.data.toList ++ Lib.joinTail [32] (T.map (·.data.toList)) := by
  have hc : k = 1 ∨ k = 2 ∨ k = 3 ∨ k = 4 ∨ k = 5 ∨ k = 6 ∨ k = 7 ∨ k = 8 ∨ k = 9 ∨ k = 10 := by omega
  unfold joinT
  rcases hc with rfl | rfl | rfl | rfl | rfl | rfl | rfl | rfl | rfl | rfl
  all_goals
    unfold wordsL wrdB
    simp [Lib.join_cons, joinTail_cons, joinTail_nil]
theorem lineT_list {s : St} (h : 1 ≤ s.kd ∧ s.kd ≤ 10) : (lineT s).data.toList = (wrdB s.kd).1.data.toList ++ Lib.joinTail [32] ((tailL s).map (·.data.toList)) := join_words h _
theorem may_kind {s : St} (h : mayS s = true) : 1 ≤ s.kd ∧ s.kd ≤ 10 := by
  rw [may_is, Bool.and_eq_true, decide_eq_true_eq] at h
  exact Classical.byContradiction fun q => h.1 (wordsL_nil q)
theorem size_list (b : ByteArray) : b.data.toList.length = b.size := Array.length_toList
theorem strOfNums_size (l : List Int) : (strOfNums l).size = l.length := by simp [strOfNums, ByteArray.size]
theorem hexN_len (l : List Int) : (hexN l).length = if l = [] then 1 else 2 * l.length := by
  unfold hexN
  split
  · rfl
  · exact hexN'_len l
theorem wrd_size (k : Nat) : (wrdB k).1.size ≤ 10 := by
  unfold wrdB
  split <;> decide
/-- Numbers that are int64's. -/
def StI (s : St) : Prop := s.kd < 256 ∧ (-9223372036854775808 ≤ s.la ∧ s.la ≤ 9223372036854775807) ∧ (-9223372036854775808 ≤ s.sl ∧ s.sl ≤ 9223372036854775807) ∧ (-9223372036854775808 ≤ s.pl ∧ s.pl ≤ 9223372036854775807) ∧ Byt s.by'
theorem lineT_one {s : St} (h : s.kd = 1) : (lineT s).size = 8 + (if s.by' = [] then 1 else 2 * s.by'.length) := by
  rw [← size_list, lineT_list (by omega)]
  unfold tailL
  rw [h]
  simp only [List.map_cons, List.map_nil, joinTail_cons, joinTail_nil, List.length_append, size_list, strOfNums_size, hexN_len]
  rw [show (wrdB 1).1.size = 7 from rfl]
  simp
  omega
theorem lineT_small {s : St} (h : 1 ≤ s.kd ∧ s.kd ≤ 10) (h1 : s.kd ≠ 1) (hi : StI s) : (lineT s).size ≤ 60 := by
  rw [← size_list, lineT_list h]
  have hw := wrd_size s.kd
  have a := numT_short s.la hi.2.1.1 hi.2.1.2
  have b := numT_short s.sl hi.2.2.1.1 hi.2.2.1.2
  have c := numT_short s.pl hi.2.2.2.1.1 hi.2.2.2.1.2
  unfold tailL
  split
  · omega
  all_goals
    simp only [List.map_cons, List.map_nil, joinTail_cons, joinTail_nil, List.length_append, size_list, List.length_singleton, List.length_nil]
    omega
theorem lineE_bad {s : St} (h : mayS s = false) : lineE s = 284 ∧ lineX s = ⟨#[]⟩ := by
  have : lineE s = 284 := by unfold lineE; rw [if_pos h]
  exact ⟨this, by unfold lineX; rw [this]; rfl⟩
theorem lineE_long {s : St} (h : mayS s = true) (h1 : s.kd = 1) (h2 : 2097152 < s.by'.length) : lineE s = 4 ∧ lineX s = ⟨#[]⟩ := by
  have : lineE s = 4 := by unfold lineE; rw [if_neg (by rw [h]; simp), if_pos ⟨h1, h2⟩]
  exact ⟨this, by unfold lineX; rw [this]; rfl⟩
theorem lineE_over {s : St} (h : mayS s = true) (h2 : 4194304 < (lineT s).size) : lineE s = 4 ∧ lineX s = ⟨#[]⟩ := by
  have : lineE s = 4 := by
    unfold lineE
    rw [if_neg (by rw [h]; simp)]
    split <;> first | rfl | rw [if_pos h2]
  exact ⟨this, by unfold lineX; rw [this]; rfl⟩
theorem lineE_good {s : St} (h : mayS s = true) (h1 : ¬ (s.kd = 1 ∧ 2097152 < s.by'.length)) (h2 : ¬ 4194304 < (lineT s).size) : lineE s = 0 ∧ lineX s = lineT s := by
  have : lineE s = 0 := by unfold lineE; rw [if_neg (by rw [h]; simp), if_neg h1, if_neg h2]
  exact ⟨this, by unfold lineX; rw [this]; rfl⟩
/-- As the program writes a byte's half. -/
def digV (n : Int) : Value := .int .u8 (digR n)
theorem digT_at (n : Fin 16) : (digT.data.toList[n.val]?).map (fun c => (c.toNat : Int)) = some (digR n.val) := by revert n; decide +kernel
end Sc
end Go.Proofs.YtbpgpjibljgiiaaGreatDoor
namespace Go.Proofs.YtbpgpjibljgiiaaGreatDoor
open Go.RowKit
set_option linter.unusedVariables false
set_option linter.unusedSimpArgs false
theorem gPow : Tryz.prog.globalNamed "internal/strconv.uint64pow10" = some 2 := by kernel_rfl
/-- The powers of ten lie where the library has them. -/
def TB (w : World) : Prop := Lib.TabIs Tryz.prog w "internal/strconv.uint64pow10" .u64 Lib.pow10Tab
theorem TB.lt {w : World} (h : TB w) : 2 < w.heap.size := by
  unfold TB Lib.TabIs World.var? at h
  rw [gPow] at h
  rcases Nat.lt_or_ge 2 w.heap.size with h' | h'
  · exact h'
  · simp only [Option.bind_some] at h
    rw [Array.getElem?_eq_none h'] at h; simp at h
theorem TB.fr {S : List Nat} {w w' : World} (h : TB w) (f : Fr S w w') (hs : 2 ∉ S) : TB w' := by
  have hl := h.lt
  unfold TB Lib.TabIs World.var? at *
  rw [gPow] at *
  simp only [Option.bind_some] at h ⊢
  rw [f.block 2 hl hs]
  exact h
theorem fr_grow (w : World) (k : Nat) (os : Array Obj) : Fr [] w (Go.Sort.grow (w.drewN k) os) :=
  ⟨rfl, rfl, rfl, by simp [Go.Sort.grow], fun j hj _ => by simp only [Go.Sort.grow]; exact Array.getElem?_append_left (by simpa using hj)⟩
theorem itoa_any (w : World) (n : Int) (h0 : -9223372036854775808 ≤ n) (h1 : n ≤ 9223372036854775807) (hw : TB w) : Calls Tryz.prog 26 #[.int .i64 n] w fun e w' => e = .returned (.string (Sc.numT n)) ∧ Fr [] w w' :=
  (Tryz.strconv_Itoa n h0 h1 w hw).mono fun e w' ⟨h, k, os, h2⟩ => ⟨h, by rw [h2]; exact fr_grow w k os⟩
namespace Sc
theorem joinT_of (L : List ByteArray) (sep : ByteArray) (h : sep = ⟨#[32]⟩) : (⟨(Lib.join (L.map (·.data.toList)) sep.data.toList).toArray⟩ : ByteArray) = joinT L := by subst h; rfl
theorem join_any (w : World) (g c : Nat) (L : List ByteArray) (hcl : ∀ i s, L[i]? = some s → w.cell? ⟨g, i, none⟩ = some (.string s)) (hg : g < w.heap.size) (hN : L.length ≤ 4294967296) (hcap : L.length ≤ c) (hs : (joinT L).size ≤ 4294967296) :
    Calls Tryz.prog 55 #[.slice (some ⟨g, 0, none⟩) L.length c, .string ⟨#[32]⟩] w fun e w' => e = .returned (.string (joinT L)) ∧ Fr [] w w' := by
  have h1 : (Lib.join (L.map (·.data.toList)) (⟨#[32]⟩ : ByteArray).data.toList).length = (joinT L).size := by unfold joinT ByteArray.size; simp
  refine (Tryz.strings_Join g 0 c L ⟨#[32]⟩ w (fun j x hx => by rw [Nat.zero_add]; exact hcl j x hx) hg (by omega) hcap (by omega)).mono ?_
  rintro e w' ⟨h2, h3⟩
  exact ⟨h2, h3.os, h3.tape, h3.output, h3.size, fun k hk _ => h3.block k hk⟩
theorem WordsV.own {W : World} {n0 : Nat} {v : Value} {L : List ByteArray} (h : WordsV W n0 v L) (hL : L.length ≤ 4294967296) : StrV W n0 v L := by
  rcases h with ⟨rfl, rfl⟩ | ⟨g, rfl, hb, hn⟩
  · exact StrV.nil _ _
  · refine ⟨⟨by simp [strs], .inr ⟨g, L.length, (strs L).toArray, rfl, Nat.zero_le _, hb, Nat.le_refl _, by unfold maxLen; omega, by simp [strs], by simp [strs]; exact List.take_of_length_le (by simp)⟩⟩, fun q hq => ?_⟩
    simp [Value.ownBlock] at hq
    omega
theorem wordsL_len (k : Nat) : (wordsL k).length ≤ 2 := by
  unfold wordsL
  split <;> decide
end Sc
end Go.Proofs.YtbpgpjibljgiiaaGreatDoor
namespace Go.Proofs.YtbpgpjibljgiiaaGreatDoor
open Go.RowKit
set_option linter.unusedVariables false
set_option linter.unusedSimpArgs false
attribute [local go_sem] Oper.semAt_some
/-- A slice of two texts, in memory of its own. -/
def Stab.slotS (X Y : ByteArray) : Stab := ⟨fun u W => ∃ g, u = .slice (some ⟨g, 0, none⟩) 2 2 ∧ Blk W g #[.string X, .string Y] 9, fun _ _ _ f ⟨g, h1, h2⟩ => ⟨g, h1, f.blk h2 (by simp)⟩⟩
namespace Sc
set_option maxRecDepth 100000 in
set_option maxHeartbeats 4000000 in
theorem line_bad (w : World) (s : St) (p : Option Addr) (c : Nat) (hs : s.kd < 256) (h : mayS s = false) :
    Calls Tryz.prog 28 #[s.val (.slice p s.by'.length c)] w fun e w' => e = .returned (.tuple #[.string (lineX s), .int .i64 (lineE s)]) ∧ Fr [] w w' := by
  rw [(lineE_bad h).1, (lineE_bad h).2]
  have HM := Lib.hid (fun W => may_any W s hs p c)
  rw [h] at HM
  obtain ⟨kd, la, sl, pl, by'⟩ := s
  replace HM := Lib.hid (fun W => show Calls Tryz.prog 38 #[.agg #[.int .u8 kd, .int .i64 la, .int .i64 sl, .int .i64 pl, .slice p by'.length c]] W _ from HM.out W)
  show Calls Tryz.prog 28 #[.agg #[.int .u8 kd, .int .i64 la, .int .i64 sl, .int .i64 pl, .slice p by'.length c]] w _
  obtain ⟨n, hn⟩ : ∃ n, n = by'.length := ⟨_, rfl⟩
  rw [← hn] at HM ⊢
  clear hs h hn
  obtain ⟨bx, hbx⟩ : ∃ bx, bx = w.heap.size := ⟨_, rfl⟩
  obtain ⟨w1, hw1⟩ : ∃ w1, w.alloc (.cells #[.int .u8 kd, .int .i64 la, .int .i64 sl, .int .i64 pl, .slice p n c] 64) = w1 := ⟨_, rfl⟩
  have hb : Blk w1 bx #[.int .u8 kd, .int .i64 la, .int .i64 sl, .int .i64 pl, .slice p n c] 64 := by rw [← hw1]; exact Blk.new_at hbx _ _
  have q1 := hb.st
  have H1 := Lib.hid (show Fr [] w w1 by rw [← hw1]; exact (Fr.refl _ _).alloc _)
  have HW1 := Lib.hid hw1
  have HBX := Lib.hid hbx
  clear hb hbx hw1
  go_enter Tryz.func28, Tryz.ntmps28
  go_upto_region 1 with fail
  rw [HW1.out, ← HBX.out]
  go_wp2_with fail
  (with_reducible refine (HM.out _).mono ?_)
  rintro e w2 ⟨rfl, f2⟩
  have H2 := Lib.hid (H1.out.trans f2 (by simp))
  clear f2
  go_wp2
  go_ret2
  exact ⟨rfl, H2.out⟩
set_option maxRecDepth 100000 in
set_option maxHeartbeats 4000000 in
theorem line_turn (w : World) (s : St) (p : Option Addr) (c : Nat) (hi : StI s) (h : mayS s = true) (htb : TB w) (hk : s.kd = 3) :
    Calls Tryz.prog 28 #[s.val (.slice p s.by'.length c)] w fun e w' => e = .returned (.tuple #[.string (lineT s), .int .i64 0]) ∧ Fr [] w w' := by
  obtain ⟨T, hT⟩ : ∃ T, T = lineT s := ⟨_, rfl⟩
  have HT := Lib.hid hT
  rw [← hT]
  obtain ⟨L, hL⟩ : ∃ L, L = wordsL s.kd := ⟨_, rfl⟩
  obtain ⟨N, hN⟩ : ∃ N, N = L.length := ⟨_, rfl⟩
  have HM := Lib.hid (fun W => may_any W s hi.1 p c)
  rw [h] at HM
  have HWD := Lib.hid (fun W => words_any W s.kd hi.1)
  rw [← hL] at HWD
  have HS := Lib.hid (And.intro hi h)
  obtain ⟨kd, la, sl, pl, by'⟩ := s
  obtain rfl : kd = 3 := hk
  replace HM := Lib.hid (fun W => show Calls Tryz.prog 38 #[.agg #[.int .u8 3, .int .i64 la, .int .i64 sl, .int .i64 pl, .slice p by'.length c]] W _ from HM.out W)
  replace HWD := Lib.hid (fun W => show Calls Tryz.prog 54 #[.int .u8 3] W _ from HWD.out W)
  show Calls Tryz.prog 28 #[.agg #[.int .u8 3, .int .i64 la, .int .i64 sl, .int .i64 pl, .slice p by'.length c]] w _
  have HL := Lib.hid hL
  have HN := Lib.hid hN
  have hL0 : 0 < L.length := by rw [hL]; exact List.length_pos_iff.2 (wordsL_ne (may_kind h))
  have hL2 : L.length ≤ 2 := by rw [hL]; exact wordsL_len _
  have HLL := Lib.hid (And.intro hL0 hL2)
  obtain ⟨n, hn⟩ : ∃ n, n = by'.length := ⟨_, rfl⟩
  rw [← hn] at HM ⊢
  have HNB := Lib.hid hn
  have HTB := Lib.hid htb
  clear hT hL hN hi h hL0 hL2 hn htb
  obtain ⟨bx, hbx⟩ : ∃ bx, bx = w.heap.size := ⟨_, rfl⟩
  obtain ⟨w1, hw1⟩ : ∃ w1, w.alloc (.cells #[.int .u8 3, .int .i64 la, .int .i64 sl, .int .i64 pl, .slice p n c] 64) = w1 := ⟨_, rfl⟩
  have hb : Blk w1 bx #[.int .u8 3, .int .i64 la, .int .i64 sl, .int .i64 pl, .slice p n c] 64 := by rw [← hw1]; exact Blk.new_at hbx _ _
  have q1 := hb.st
  have H1 := Lib.hid (And.intro hb (show Fr [] w w1 by rw [← hw1]; exact (Fr.refl _ _).alloc _))
  have HW1 := Lib.hid hw1
  have HBX := Lib.hid hbx
  clear hb hbx hw1
  go_enter Tryz.func28, Tryz.ntmps28
  go_upto_region 1 with fail
  rw [HW1.out, ← HBX.out]
  go_wp2_with fail
  (with_reducible refine (HM.out _).mono ?_)
  rintro e w2 ⟨rfl, f2⟩
  have H2 := Lib.hid (show Blk w2 bx _ 64 ∧ Fr [] w w2 from ⟨f2.blk H1.out.1 (by simp), H1.out.2.trans f2 (by simp)⟩)
  have c0 := H2.out.1.at 0 (v := .int .u8 3) rfl
  clear f2 q1
  go_wp2_with fail
  (with_reducible refine (HWD.out _).mono ?_)
  rintro e w3 ⟨v3, rfl, hv3, f3⟩
  obtain ⟨g, c3, rfl, hcap3, hcl3⟩ := slot_of (hv3.own (by have := HLL.out; omega)) HLL.out.1
  have H3 := Lib.hid (show Blk w3 bx _ 64 ∧ Fr [] w w3 ∧ StrV w3 w.heap.size (.slice (some ⟨g, 0, none⟩) L.length c3) L from ⟨f3.blk H2.out.1 (by simp), H2.out.2.trans f3 (by simp), (hv3.own (by have := HLL.out; omega)).1, fun q hq => Nat.le_trans H2.out.2.size ((hv3.own (by have := HLL.out; omega)).2 q hq)⟩)
  have H3C := Lib.hid (And.intro hcap3 hcl3)
  rw [← HN.out]
  clear c0 hv3 f3 hcap3 hcl3
  have c0 := H3.out.1.at 0 (v := .int .u8 3) rfl
  have HTS := Lib.hid (show T.size ≤ 4194304 from by rw [HT.out]; have := lineT_small (may_kind HS.out.2) (by show (3 : Nat) ≠ 1; decide) HS.out.1; omega)
  have HTE := Lib.hid (show T = joinT L by rw [HT.out, HL.out]; show joinT (wordsL 3 ++ []) = _; rw [List.append_nil])
  have HJ := Lib.hid (join_any w3 g c3 L H3C.out.2 (own_lt H3.out.2.2.1 rfl) (by have := HLL.out; omega) H3C.out.1 (by rw [← HTE.out]; have := HTS.out; omega))
  rw [← HN.out] at HJ
  go_wp2_with fail
  (with_reducible refine HJ.out.mono ?_)
  rintro e w9 ⟨rfl, f9⟩
  have H9 := Lib.hid (H3.out.2.1.trans f9 (by simp))
  clear f9
  rw [← HTE.out]
  have k9 : (T.size : Int) ≤ 4194304 := by have := HTS.out; omega
  go_wp2
  go_ret2
  exact ⟨rfl, H9.out⟩
set_option maxRecDepth 100000 in
set_option maxHeartbeats 4000000 in
theorem line_tick (w : World) (s : St) (p : Option Addr) (c : Nat) (hi : StI s) (h : mayS s = true) (htb : TB w) (hk : s.kd = 4) :
    Calls Tryz.prog 28 #[s.val (.slice p s.by'.length c)] w fun e w' => e = .returned (.tuple #[.string (lineT s), .int .i64 0]) ∧ Fr [] w w' := by
  obtain ⟨T, hT⟩ : ∃ T, T = lineT s := ⟨_, rfl⟩
  have HT := Lib.hid hT
  rw [← hT]
  obtain ⟨L, hL⟩ : ∃ L, L = wordsL s.kd := ⟨_, rfl⟩
  obtain ⟨N, hN⟩ : ∃ N, N = L.length := ⟨_, rfl⟩
  have HM := Lib.hid (fun W => may_any W s hi.1 p c)
  rw [h] at HM
  have HWD := Lib.hid (fun W => words_any W s.kd hi.1)
  rw [← hL] at HWD
  have HS := Lib.hid (And.intro hi h)
  obtain ⟨kd, la, sl, pl, by'⟩ := s
  obtain rfl : kd = 4 := hk
  replace HM := Lib.hid (fun W => show Calls Tryz.prog 38 #[.agg #[.int .u8 4, .int .i64 la, .int .i64 sl, .int .i64 pl, .slice p by'.length c]] W _ from HM.out W)
  replace HWD := Lib.hid (fun W => show Calls Tryz.prog 54 #[.int .u8 4] W _ from HWD.out W)
  show Calls Tryz.prog 28 #[.agg #[.int .u8 4, .int .i64 la, .int .i64 sl, .int .i64 pl, .slice p by'.length c]] w _
  have HL := Lib.hid hL
  have HN := Lib.hid hN
  have hL0 : 0 < L.length := by rw [hL]; exact List.length_pos_iff.2 (wordsL_ne (may_kind h))
  have hL2 : L.length ≤ 2 := by rw [hL]; exact wordsL_len _
  have HLL := Lib.hid (And.intro hL0 hL2)
  obtain ⟨n, hn⟩ : ∃ n, n = by'.length := ⟨_, rfl⟩
  rw [← hn] at HM ⊢
  have HNB := Lib.hid hn
  have HTB := Lib.hid htb
  clear hT hL hN hi h hL0 hL2 hn htb
  obtain ⟨bx, hbx⟩ : ∃ bx, bx = w.heap.size := ⟨_, rfl⟩
  obtain ⟨w1, hw1⟩ : ∃ w1, w.alloc (.cells #[.int .u8 4, .int .i64 la, .int .i64 sl, .int .i64 pl, .slice p n c] 64) = w1 := ⟨_, rfl⟩
  have hb : Blk w1 bx #[.int .u8 4, .int .i64 la, .int .i64 sl, .int .i64 pl, .slice p n c] 64 := by rw [← hw1]; exact Blk.new_at hbx _ _
  have q1 := hb.st
  have H1 := Lib.hid (And.intro hb (show Fr [] w w1 by rw [← hw1]; exact (Fr.refl _ _).alloc _))
  have HW1 := Lib.hid hw1
  have HBX := Lib.hid hbx
  clear hb hbx hw1
  go_enter Tryz.func28, Tryz.ntmps28
  go_upto_region 1 with fail
  rw [HW1.out, ← HBX.out]
  go_wp2_with fail
  (with_reducible refine (HM.out _).mono ?_)
  rintro e w2 ⟨rfl, f2⟩
  have H2 := Lib.hid (show Blk w2 bx _ 64 ∧ Fr [] w w2 from ⟨f2.blk H1.out.1 (by simp), H1.out.2.trans f2 (by simp)⟩)
  have c0 := H2.out.1.at 0 (v := .int .u8 4) rfl
  clear f2 q1
  go_wp2_with fail
  (with_reducible refine (HWD.out _).mono ?_)
  rintro e w3 ⟨v3, rfl, hv3, f3⟩
  obtain ⟨g, c3, rfl, hcap3, hcl3⟩ := slot_of (hv3.own (by have := HLL.out; omega)) HLL.out.1
  have H3 := Lib.hid (show Blk w3 bx _ 64 ∧ Fr [] w w3 ∧ StrV w3 w.heap.size (.slice (some ⟨g, 0, none⟩) L.length c3) L from ⟨f3.blk H2.out.1 (by simp), H2.out.2.trans f3 (by simp), (hv3.own (by have := HLL.out; omega)).1, fun q hq => Nat.le_trans H2.out.2.size ((hv3.own (by have := HLL.out; omega)).2 q hq)⟩)
  have H3C := Lib.hid (And.intro hcap3 hcl3)
  rw [← HN.out]
  clear c0 hv3 f3 hcap3 hcl3
  have c0 := H3.out.1.at 0 (v := .int .u8 4) rfl
  have HTS := Lib.hid (show T.size ≤ 4194304 from by rw [HT.out]; have := lineT_small (may_kind HS.out.2) (by show (4 : Nat) ≠ 1; decide) HS.out.1; omega)
  have HTE := Lib.hid (show T = joinT L by rw [HT.out, HL.out]; show joinT (wordsL 4 ++ []) = _; rw [List.append_nil])
  have HJ := Lib.hid (join_any w3 g c3 L H3C.out.2 (own_lt H3.out.2.2.1 rfl) (by have := HLL.out; omega) H3C.out.1 (by rw [← HTE.out]; have := HTS.out; omega))
  rw [← HN.out] at HJ
  go_wp2_with fail
  (with_reducible refine HJ.out.mono ?_)
  rintro e w9 ⟨rfl, f9⟩
  have H9 := Lib.hid (H3.out.2.1.trans f9 (by simp))
  clear f9
  rw [← HTE.out]
  have k9 : (T.size : Int) ≤ 4194304 := by have := HTS.out; omega
  go_wp2
  go_ret2
  exact ⟨rfl, H9.out⟩
theorem tailL_n {s : St} (h : 5 ≤ s.kd) : tailL s = [numT s.sl, numT s.pl] := by
  obtain ⟨kd, la, sl, pl, by'⟩ := s
  match kd, h with
  | k + 5, _ => rfl
theorem StrV.pushL {w W W5 W' : World} {n0 : Nat} {v v' : Value} {L X : List ByteArray} (h : StrV W n0 v L) (hw : Fr [] w W) (f : Fr [] W W5) (hn : w.heap.size ≤ n0 ∧ n0 ≤ W5.heap.size) (happ : Appended W5 9 1 v (L.length + X.length) (strs L ++ strs X) v' W') : StrV W' n0 v' (L ++ X) ∧ Fr [] w W' := by
  refine ⟨⟨?_, fun g hg => ?_⟩, (hw.trans f (by simp)).trans happ.fr (fun y hy => .inr (Nat.le_trans hn.1 (h.2 y (by simpa using hy))))⟩
  · have := happ.own
    rw [List.length_append]
    simpa [strs] using this
  · rcases happ.place with q | q
    · exact h.2 g (by rw [← q]; exact hg)
    · rw [q] at hg; cases hg; exact hn.2
set_option maxRecDepth 100000 in
set_option maxHeartbeats 4000000 in
theorem line_lane (w : World) (s : St) (p : Option Addr) (c : Nat) (hi : StI s) (h : mayS s = true) (htb : TB w) (hk : s.kd = 2) :
    Calls Tryz.prog 28 #[s.val (.slice p s.by'.length c)] w fun e w' => e = .returned (.tuple #[.string (lineT s), .int .i64 0]) ∧ Fr [] w w' := by
  obtain ⟨T, hT⟩ : ∃ T, T = lineT s := ⟨_, rfl⟩
  have HT := Lib.hid hT
  rw [← hT]
  obtain ⟨L, hL⟩ : ∃ L, L = wordsL s.kd := ⟨_, rfl⟩
  obtain ⟨N, hN⟩ : ∃ N, N = L.length := ⟨_, rfl⟩
  have HM := Lib.hid (fun W => may_any W s hi.1 p c)
  rw [h] at HM
  have HWD := Lib.hid (fun W => words_any W s.kd hi.1)
  rw [← hL] at HWD
  have HS := Lib.hid (And.intro hi h)
  obtain ⟨kd, la, sl, pl, by'⟩ := s
  obtain rfl : kd = 2 := hk
  replace HM := Lib.hid (fun W => show Calls Tryz.prog 38 #[.agg #[.int .u8 2, .int .i64 la, .int .i64 sl, .int .i64 pl, .slice p by'.length c]] W _ from HM.out W)
  replace HWD := Lib.hid (fun W => show Calls Tryz.prog 54 #[.int .u8 2] W _ from HWD.out W)
  show Calls Tryz.prog 28 #[.agg #[.int .u8 2, .int .i64 la, .int .i64 sl, .int .i64 pl, .slice p by'.length c]] w _
  have HL := Lib.hid hL
  have HN := Lib.hid hN
  have hL0 : 0 < L.length := by rw [hL]; exact List.length_pos_iff.2 (wordsL_ne (may_kind h))
  have hL2 : L.length ≤ 2 := by rw [hL]; exact wordsL_len _
  have HLL := Lib.hid (And.intro hL0 hL2)
  obtain ⟨n, hn⟩ : ∃ n, n = by'.length := ⟨_, rfl⟩
  rw [← hn] at HM ⊢
  have HNB := Lib.hid hn
  have HTB := Lib.hid htb
  clear hT hL hN hi h hL0 hL2 hn htb
  obtain ⟨bx, hbx⟩ : ∃ bx, bx = w.heap.size := ⟨_, rfl⟩
  obtain ⟨w1, hw1⟩ : ∃ w1, w.alloc (.cells #[.int .u8 2, .int .i64 la, .int .i64 sl, .int .i64 pl, .slice p n c] 64) = w1 := ⟨_, rfl⟩
  have hb : Blk w1 bx #[.int .u8 2, .int .i64 la, .int .i64 sl, .int .i64 pl, .slice p n c] 64 := by rw [← hw1]; exact Blk.new_at hbx _ _
  have q1 := hb.st
  have H1 := Lib.hid (And.intro hb (show Fr [] w w1 by rw [← hw1]; exact (Fr.refl _ _).alloc _))
  have HW1 := Lib.hid hw1
  have HBX := Lib.hid hbx
  clear hb hbx hw1
  go_enter Tryz.func28, Tryz.ntmps28
  go_upto_region 1 with fail
  rw [HW1.out, ← HBX.out]
  go_wp2_with fail
  (with_reducible refine (HM.out _).mono ?_)
  rintro e w2 ⟨rfl, f2⟩
  have H2 := Lib.hid (show Blk w2 bx _ 64 ∧ Fr [] w w2 from ⟨f2.blk H1.out.1 (by simp), H1.out.2.trans f2 (by simp)⟩)
  have c0 := H2.out.1.at 0 (v := .int .u8 2) rfl
  clear f2 q1
  go_wp2_with fail
  (with_reducible refine (HWD.out _).mono ?_)
  rintro e w3 ⟨v3, rfl, hv3, f3⟩
  obtain ⟨g, c3, rfl, hcap3, hcl3⟩ := slot_of (hv3.own (by have := HLL.out; omega)) HLL.out.1
  have H3 := Lib.hid (show Blk w3 bx _ 64 ∧ Fr [] w w3 ∧ StrV w3 w.heap.size (.slice (some ⟨g, 0, none⟩) L.length c3) L from ⟨f3.blk H2.out.1 (by simp), H2.out.2.trans f3 (by simp), (hv3.own (by have := HLL.out; omega)).1, fun q hq => Nat.le_trans H2.out.2.size ((hv3.own (by have := HLL.out; omega)).2 q hq)⟩)
  have H3C := Lib.hid (And.intro hcap3 hcl3)
  rw [← HN.out]
  clear c0 hv3 f3 hcap3 hcl3
  have c0 := H3.out.1.at 0 (v := .int .u8 2) rfl
  have HTS := Lib.hid (show T.size ≤ 4194304 from by rw [HT.out]; have := lineT_small (may_kind HS.out.2) (by show (2 : Nat) ≠ 1; decide) HS.out.1; omega)
  have HIT := Lib.hid (itoa_any w3 la HS.out.1.2.1.1 HS.out.1.2.1.2 (HTB.out.fr H3.out.2.1 (by simp)))
  obtain ⟨X, hX⟩ : ∃ X, X = numT la := ⟨_, rfl⟩
  rw [← hX] at HIT
  have HTE := Lib.hid (show T = joinT (L ++ [X]) by rw [HT.out, HL.out, hX]; rfl)
  have c1 := H3.out.1.at 1 (v := .int .i64 la) rfl
  clear hX
  go_wp2_with fail
  (with_reducible refine HIT.out.mono ?_)
  rintro e w4 ⟨rfl, f4⟩
  have HF4 := Lib.hid f4
  clear f4 c0 c1
  have HOW := Lib.hid (show (w4.alloc (.cells #[.string X] 9)).ownsRow 0 9 1 (.slice (some ⟨g, 0, none⟩) N c3) N (strs L) by rw [HN.out]; exact (own_fr H3.out.2.2.1 (HF4.out.trans ((Fr.refl [] w4).alloc _) (by simp)) (by simp)))
  have HNW := Lib.hid (new_list w4 [.string X] 9 _ rfl)
  have HNL := Lib.hid (show N ≤ 2 by rw [HN.out]; exact HLL.out.2)
  have HFW := Lib.hid (show Fr [] w3 (w4.alloc (.cells #[.string X] 9)) from HF4.out.trans ((Fr.refl [] w4).alloc _) (by simp))
  have HN5 := Lib.hid (show w.heap.size ≤ w.heap.size ∧ w.heap.size ≤ (w4.alloc (.cells #[.string X] 9)).heap.size from ⟨Nat.le_refl _, Nat.le_trans H3.out.2.1.size HFW.out.size⟩)
  have HPA := Lib.hid (fun v' W' (q : Appended (w4.alloc (.cells #[.string X] 9)) 9 1 (.slice (some ⟨g, 0, none⟩) N c3) (N + 1) (strs L ++ [.string X]) v' W') => show Appended (w4.alloc (.cells #[.string X] 9)) 9 1 (.slice (some ⟨g, 0, none⟩) L.length c3) (L.length + [X].length) (strs L ++ strs [X]) v' W' from by rw [← HN.out]; exact q)
  have HML := Lib.hid (show 0 < (L ++ [X]).length by simp)
  obtain ⟨M, hM⟩ : ∃ M, (L ++ [X]).length = M := ⟨_, rfl⟩
  have HMM := Lib.hid hM
  clear hM
  go_wp2_with (at_builtin; go_must (refine wpList_app _ rfl _ _ 46 rfl 9 (.string ⟨#[]⟩) 1 16 Tryz.underlying46 infoS9 rfl (by decide) (.slice (some ⟨g, 0, none⟩) N c3) N (strs L) rfl HOW.out ⟨w4.heap.size, 0, none⟩ 1 1 [.string X] rfl rfl HNW.out (by simp [Value.oneCell']) (by have := HNL.out; unfold maxLen; omega) (by have := HNL.out; omega) ?_); intro v5 w5 happ; have HAP := Lib.hid happ; clear happ; obtain ⟨v5', hv5⟩ : ∃ x, x = v5 := ⟨_, rfl⟩; rw [← hv5] at HAP ⊢; clear hv5; obtain ⟨g5, c5, rfl, hcap5, hcl5⟩ := slot_of (H3.out.2.2.pushL (X := [X]) H3.out.2.1 HFW.out HN5.out (HPA.out _ _ HAP.out)).1 HML.out; have H5 := Lib.hid (And.intro (H3.out.2.2.pushL (X := [X]) H3.out.2.1 HFW.out HN5.out (HPA.out _ _ HAP.out)) (And.intro hcap5 hcl5)); clear hcap5 hcl5; rw [HMM.out])
  have HJ := Lib.hid (join_any w5 g5 c5 (L ++ [X]) H5.out.2.2 (own_lt H5.out.1.1.1 rfl) (by have := HLL.out; simp; omega) H5.out.2.1 (by rw [← HTE.out]; have := HTS.out; omega))
  rw [HMM.out] at HJ
  (with_reducible refine HJ.out.mono ?_)
  rintro e w9 ⟨rfl, f9⟩
  have H9 := Lib.hid (H5.out.1.2.trans f9 (by simp))
  clear f9
  rw [← HTE.out]
  have k9 : (T.size : Int) ≤ 4194304 := by have := HTS.out; omega
  go_wp2
  go_ret2
  exact ⟨rfl, H9.out⟩
set_option maxRecDepth 100000 in
set_option maxHeartbeats 4000000 in
theorem line_way (w : World) (s : St) (p : Option Addr) (c : Nat) (hi : StI s) (h : mayS s = true) (htb : TB w) (hk : 5 ≤ s.kd) :
    Calls Tryz.prog 28 #[s.val (.slice p s.by'.length c)] w fun e w' => e = .returned (.tuple #[.string (lineT s), .int .i64 0]) ∧ Fr [] w w' := by
  obtain ⟨T, hT⟩ : ∃ T, T = lineT s := ⟨_, rfl⟩
  have HT := Lib.hid hT
  rw [← hT]
  obtain ⟨L, hL⟩ : ∃ L, L = wordsL s.kd := ⟨_, rfl⟩
  obtain ⟨N, hN⟩ : ∃ N, N = L.length := ⟨_, rfl⟩
  have HM := Lib.hid (fun W => may_any W s hi.1 p c)
  rw [h] at HM
  have HWD := Lib.hid (fun W => words_any W s.kd hi.1)
  rw [← hL] at HWD
  have HS := Lib.hid (And.intro hi h)
  obtain ⟨kd, la, sl, pl, by'⟩ := s
  replace HM := Lib.hid (fun W => show Calls Tryz.prog 38 #[.agg #[.int .u8 kd, .int .i64 la, .int .i64 sl, .int .i64 pl, .slice p by'.length c]] W _ from HM.out W)
  replace HWD := Lib.hid (fun W => show Calls Tryz.prog 54 #[.int .u8 kd] W _ from HWD.out W)
  show Calls Tryz.prog 28 #[.agg #[.int .u8 kd, .int .i64 la, .int .i64 sl, .int .i64 pl, .slice p by'.length c]] w _
  have HL := Lib.hid hL
  have HN := Lib.hid hN
  have hL0 : 0 < L.length := by rw [hL]; exact List.length_pos_iff.2 (wordsL_ne (may_kind h))
  have hL2 : L.length ≤ 2 := by rw [hL]; exact wordsL_len _
  have HLL := Lib.hid (And.intro hL0 hL2)
  obtain ⟨n, hn⟩ : ∃ n, n = by'.length := ⟨_, rfl⟩
  rw [← hn] at HM ⊢
  have HNB := Lib.hid hn
  have HTB := Lib.hid htb
  have hk : 5 ≤ kd := hk
  have k1 : ((kd : Int) == 1) = false := by rw [beq_eq_false_iff_ne]; omega
  have k2 : ((kd : Int) == 2) = false := by rw [beq_eq_false_iff_ne]; omega
  have k3 : ((kd : Int) == 3) = false := by rw [beq_eq_false_iff_ne]; omega
  have k4 : ((kd : Int) == 4) = false := by rw [beq_eq_false_iff_ne]; omega
  have HKD := Lib.hid hk
  clear hk hT hL hN hi h hL0 hL2 hn htb
  obtain ⟨bx, hbx⟩ : ∃ bx, bx = w.heap.size := ⟨_, rfl⟩
  obtain ⟨w1, hw1⟩ : ∃ w1, w.alloc (.cells #[.int .u8 kd, .int .i64 la, .int .i64 sl, .int .i64 pl, .slice p n c] 64) = w1 := ⟨_, rfl⟩
  have hb : Blk w1 bx #[.int .u8 kd, .int .i64 la, .int .i64 sl, .int .i64 pl, .slice p n c] 64 := by rw [← hw1]; exact Blk.new_at hbx _ _
  have q1 := hb.st
  have H1 := Lib.hid (And.intro hb (show Fr [] w w1 by rw [← hw1]; exact (Fr.refl _ _).alloc _))
  have HW1 := Lib.hid hw1
  have HBX := Lib.hid hbx
  clear hb hbx hw1
  go_enter Tryz.func28, Tryz.ntmps28
  go_upto_region 1 with fail
  rw [HW1.out, ← HBX.out]
  go_wp2_with fail
  (with_reducible refine (HM.out _).mono ?_)
  rintro e w2 ⟨rfl, f2⟩
  have H2 := Lib.hid (show Blk w2 bx _ 64 ∧ Fr [] w w2 from ⟨f2.blk H1.out.1 (by simp), H1.out.2.trans f2 (by simp)⟩)
  have c0 := H2.out.1.at 0 (v := .int .u8 kd) rfl
  clear f2 q1
  go_wp2_with fail
  (with_reducible refine (HWD.out _).mono ?_)
  rintro e w3 ⟨v3, rfl, hv3, f3⟩
  obtain ⟨g, c3, rfl, hcap3, hcl3⟩ := slot_of (hv3.own (by have := HLL.out; omega)) HLL.out.1
  have H3 := Lib.hid (show Blk w3 bx _ 64 ∧ Fr [] w w3 ∧ StrV w3 w.heap.size (.slice (some ⟨g, 0, none⟩) L.length c3) L from ⟨f3.blk H2.out.1 (by simp), H2.out.2.trans f3 (by simp), (hv3.own (by have := HLL.out; omega)).1, fun q hq => Nat.le_trans H2.out.2.size ((hv3.own (by have := HLL.out; omega)).2 q hq)⟩)
  have H3C := Lib.hid (And.intro hcap3 hcl3)
  rw [← HN.out]
  clear c0 hv3 f3 hcap3 hcl3
  have c0 := H3.out.1.at 0 (v := .int .u8 kd) rfl
  have HTS := Lib.hid (show T.size ≤ 4194304 from by rw [HT.out]; have := lineT_small (may_kind HS.out.2) (by have := HKD.out; show kd ≠ 1; omega) HS.out.1; omega)
  have HIX := Lib.hid (fun W (f : Fr [] w3 W) => itoa_any W sl HS.out.1.2.2.1.1 HS.out.1.2.2.1.2 (HTB.out.fr (H3.out.2.1.trans f (by simp)) (by simp)))
  have HIY := Lib.hid (fun W (f : Fr [] w3 W) => itoa_any W pl HS.out.1.2.2.2.1.1 HS.out.1.2.2.2.1.2 (HTB.out.fr (H3.out.2.1.trans f (by simp)) (by simp)))
  obtain ⟨X, hX⟩ : ∃ X, X = numT sl := ⟨_, rfl⟩
  obtain ⟨Y, hY⟩ : ∃ Y, Y = numT pl := ⟨_, rfl⟩
  rw [← hX] at HIX
  rw [← hY] at HIY
  have HTE := Lib.hid (show T = joinT (L ++ [X, Y]) by rw [HT.out, HL.out, hX, hY]; unfold lineT lineL; rw [tailL_n HKD.out])
  clear hX hY
  go_wp2_with fail
  refine region_tail (by kernel_rfl) (by kernel_rfl) [[], [], [1], [1, 2], [], [4], [1, 2, 3, 4, 5], [1, 2, 3, 4, 5, 6], [0, 1, 2, 3, 4, 5, 6, 7], [0, 1, 2, 3, 4, 5, 6, 7, 8]] (by kernel_rfl) 8 (by decide) (by kernel_rfl) [.is (.slice (some ⟨g, 0, none⟩) N c3), .is (.pointer (some ⟨bx, 2, none⟩)), .is (.int .i64 sl), .is (.string X), .is (.pointer (some ⟨bx, 3, none⟩)), .is (.int .i64 pl), .is (.string Y), .slotS X Y] 76 rfl (by kernel_rfl) ?_ ?_
  · intro q a1 W1 i hi hnq hd hG K hK
    have hlt : i < 8 := hi
    have hc : i = 0 ∨ i = 1 ∨ i = 2 ∨ i = 3 ∨ i = 4 ∨ i = 5 ∨ i = 6 ∨ i = 7 := by omega
    rcases hc with rfl | rfl | rfl | rfl | rfl | rfl | rfl | rfl
    · have e4 := hG.yet 76 (by kernel_rfl) 4 9 (by decide) rfl (fun h => hnq (hG.closed 9 h _ rfl ⟨0, .phase⟩ (by simp) rfl))
      refine op_do rfl (wanted_none rfl) hK (fun K' hK' => ?_)
      unfold Oper.wp
      go_simp
      exact hK' _ _ (Fr.refl _ _) rfl
    · have e1 := hG.old 1 (by kernel_rfl)
      refine op_do rfl (wanted_none rfl) hK (fun K' hK' => ?_)
      unfold Oper.wp
      go_simp
      exact hK' _ _ (Fr.refl _ _) rfl
    · have e18 := hG.val (v := .pointer (some ⟨bx, 2, none⟩)) 1 18 (hd _ rfl ⟨1, .data⟩ (by simp) rfl) rfl rfl
      have cc := (hG.grown.blk H3.out.1 (by simp)).at 2 (v := .int .i64 sl) rfl
      refine op_do rfl (wanted_none rfl) hK (fun K' hK' => ?_)
      unfold Oper.wp
      go_simp
      exact hK' _ _ (Fr.refl _ _) rfl
    · have e19 := hG.val (v := .int .i64 sl) 2 19 (hd _ rfl ⟨2, .data⟩ (by simp) rfl) rfl rfl
      refine op_do rfl (wanted_none rfl) hK (fun K' hK' => ?_)
      unfold Oper.wp
      go_simp
      refine (HIX.out W1 hG.grown).mono ?_
      rintro e W2 ⟨rfl, hf⟩
      exact hK' _ _ hf rfl
    · have e1 := hG.old 1 (by kernel_rfl)
      refine op_do rfl (wanted_none rfl) hK (fun K' hK' => ?_)
      unfold Oper.wp
      go_simp
      exact hK' _ _ (Fr.refl _ _) rfl
    · have e21 := hG.val (v := .pointer (some ⟨bx, 3, none⟩)) 4 21 (hd _ rfl ⟨4, .data⟩ (by simp) rfl) rfl rfl
      have cc := (hG.grown.blk H3.out.1 (by simp)).at 3 (v := .int .i64 pl) rfl
      refine op_do rfl (wanted_none rfl) hK (fun K' hK' => ?_)
      unfold Oper.wp
      go_simp
      exact hK' _ _ (Fr.refl _ _) rfl
    · have e22 := hG.val (v := .int .i64 pl) 5 22 (hd _ rfl ⟨5, .data⟩ (by simp) rfl) rfl rfl
      refine op_do rfl (wanted_none rfl) hK (fun K' hK' => ?_)
      unfold Oper.wp
      go_simp
      refine (HIY.out W1 hG.grown).mono ?_
      rintro e W2 ⟨rfl, hf⟩
      exact hK' _ _ hf rfl
    · have e20 := hG.val (v := .string X) 3 20 (hd _ rfl ⟨3, .data⟩ (by simp) rfl) rfl rfl
      have e23 := hG.val (v := .string Y) 6 23 (hd _ rfl ⟨6, .data⟩ (by simp) rfl) rfl rfl
      refine op_do rfl (wanted_none rfl) hK (fun K' hK' => ?_)
      unfold Oper.wp
      go_simp
      exact hK' _ _ ((Fr.refl _ _).alloc _) ⟨_, rfl, Blk.new _ _ _⟩
  · intro q a1 W1 hq hG
    have f1 := hG.grown
    obtain ⟨vs, hv, rfl⟩ := hG.front 76 rfl (by kernel_rfl) (by decide) hq [(0, 17), (1, 18), (2, 19), (3, 20), (4, 21), (5, 22), (6, 23), (7, 24)] (by kernel_rfl)
    clear hG hq
    have r0 : vs 0 = .slice (some ⟨g, 0, none⟩) N c3 := hv 0 17 (by decide) rfl
    have r1 : vs 1 = .pointer (some ⟨bx, 2, none⟩) := hv 1 18 (by decide) rfl
    have r2 : vs 2 = .int .i64 sl := hv 2 19 (by decide) rfl
    have r3 : vs 3 = .string X := hv 3 20 (by decide) rfl
    have r4 : vs 4 = .pointer (some ⟨bx, 3, none⟩) := hv 4 21 (by decide) rfl
    have r5 : vs 5 = .int .i64 pl := hv 5 22 (by decide) rfl
    have r6 : vs 6 = .string Y := hv 6 23 (by decide) rfl
    have r7 := hv 7 24 (by decide) rfl
    simp only [List.drop_succ_cons, List.drop_zero, lay, List.foldl_cons, List.foldl_nil, r0, r1, r2, r3, r4, r5, r6]
    simp only [List.setIfInBounds_toArray, List.set_cons_zero, List.set_cons_succ]
    clear hv r0 r1 r2 r3 r4 r5 r6
    generalize vs 7 = x7 at *
    clear vs
    obtain ⟨gb, rfl, hgb⟩ := r7
    have HGB := Lib.hid hgb
    have HFW := Lib.hid f1
    have HOW := Lib.hid (show W1.ownsRow 0 9 1 (.slice (some ⟨g, 0, none⟩) N c3) N (strs L) by rw [HN.out]; exact (own_fr H3.out.2.2.1 f1 (by simp)))
    clear f1 hgb
    have HNW := Lib.hid (fun (j : Nat) (u : Value) (hu : [Value.string X, .string Y][j]? = some u) => show W1.cell? ((⟨gb, 0, none⟩ : Addr).add j) = some u from by rw [Addr.add_lit]; simpa using HGB.out.at j (v := u) (by simpa using hu))
    have HNL := Lib.hid (show N ≤ 2 by rw [HN.out]; exact HLL.out.2)
    have HN5 := Lib.hid (show w.heap.size ≤ w.heap.size ∧ w.heap.size ≤ W1.heap.size from ⟨Nat.le_refl _, Nat.le_trans H3.out.2.1.size HFW.out.size⟩)
    have HPA := Lib.hid (fun v' W' (q : Appended W1 9 1 (.slice (some ⟨g, 0, none⟩) N c3) (N + 2) (strs L ++ [.string X, .string Y]) v' W') => show Appended W1 9 1 (.slice (some ⟨g, 0, none⟩) L.length c3) (L.length + [X, Y].length) (strs L ++ strs [X, Y]) v' W' from by rw [← HN.out]; exact q)
    have HML := Lib.hid (show 0 < (L ++ [X, Y]).length by simp)
    obtain ⟨M, hM⟩ : ∃ M, (L ++ [X, Y]).length = M := ⟨_, rfl⟩
    have HMM := Lib.hid hM
    clear hM
    go_wp2_with (at_builtin; go_must (refine wpList_app _ rfl _ _ 46 rfl 9 (.string ⟨#[]⟩) 1 16 Tryz.underlying46 infoS9 rfl (by decide) (.slice (some ⟨g, 0, none⟩) N c3) N (strs L) rfl HOW.out ⟨gb, 0, none⟩ 2 2 [.string X, .string Y] rfl rfl HNW.out (by simp [Value.oneCell']) (by have := HNL.out; unfold maxLen; omega) (by have := HNL.out; omega) ?_); intro v5 w5 happ; have HAP := Lib.hid happ; clear happ; obtain ⟨v5', hv5⟩ : ∃ x, x = v5 := ⟨_, rfl⟩; rw [← hv5] at HAP ⊢; clear hv5; obtain ⟨g5, c5, rfl, hcap5, hcl5⟩ := slot_of (H3.out.2.2.pushL (X := [X, Y]) H3.out.2.1 HFW.out HN5.out (HPA.out _ _ HAP.out)).1 HML.out; have H5 := Lib.hid (And.intro (H3.out.2.2.pushL (X := [X, Y]) H3.out.2.1 HFW.out HN5.out (HPA.out _ _ HAP.out)) (And.intro hcap5 hcl5)); clear hcap5 hcl5; rw [HMM.out])
    have HJ := Lib.hid (join_any w5 g5 c5 (L ++ [X, Y]) H5.out.2.2 (own_lt H5.out.1.1.1 rfl) (by have := HLL.out; simp; omega) H5.out.2.1 (by rw [← HTE.out]; have := HTS.out; omega))
    rw [HMM.out] at HJ
    (with_reducible refine HJ.out.mono ?_)
    rintro e w9 ⟨rfl, f9⟩
    have H9 := Lib.hid (H5.out.1.2.trans f9 (by simp))
    clear f9
    rw [← HTE.out]
    have k9 : (T.size : Int) ≤ 4194304 := by have := HTS.out; omega
    go_wp2
    go_ret2
    exact ⟨rfl, H9.out⟩
end Sc
end Go.Proofs.YtbpgpjibljgiiaaGreatDoor
namespace Go.Proofs.YtbpgpjibljgiiaaGreatDoor
open Go.RowKit
set_option linter.unusedVariables false
set_option linter.unusedSimpArgs false
attribute [local go_sem] Oper.semAt_some
namespace Sc
theorem dig_fin : ∀ n : Fin 16, (((⟨#[48, 49, 50, 51, 52, 53, 54, 55, 56, 57, 97, 98, 99, 100, 101, 102]⟩ : ByteArray)[n.val]'n.isLt).toNat : Int) = digR n.val := by decide +kernel
theorem dig_ix (x : Int) (h0 : 0 ≤ x) (h1 : x < 16) {h : x.toNat < (⟨#[48, 49, 50, 51, 52, 53, 54, 55, 56, 57, 97, 98, 99, 100, 101, 102]⟩ : ByteArray).size} : (((⟨#[48, 49, 50, 51, 52, 53, 54, 55, 56, 57, 97, 98, 99, 100, 101, 102]⟩ : ByteArray)[x.toNat]'h).toNat : Int) = digR x := by
  have := dig_fin ⟨x.toNat, by omega⟩
  rw [show ((x.toNat : Nat) : Int) = x by omega] at this
  exact this
theorem and_fin : ∀ n : Fin 256, bits .and .u8 (n.val : Int) 15 = (n.val : Int) % 16 := by decide +kernel
theorem and15 (z : Int) (h0 : 0 ≤ z) (h1 : z < 256) : bits .and .u8 z 15 = z % 16 := by
  have := and_fin ⟨z.toNat, by omega⟩
  rw [show ((z.toNat : Nat) : Int) = z by omega] at this
  exact this
set_option maxRecDepth 100000 in
set_option maxHeartbeats 8000000 in
theorem cmd_long (w : World) (s : St) (p : Option Addr) (c : Nat) (hi : StI s) (h : mayS s = true) (htb : TB w) (hk : s.kd = 1) (hrd : Rd w (.slice p s.by'.length c) (u8s s.by')) (hlong : 2097152 < s.by'.length) :
    Calls Tryz.prog 28 #[s.val (.slice p s.by'.length c)] w fun e w' => e = .returned (.tuple #[.string ⟨#[]⟩, .int .i64 4]) ∧ Fr [] w w' := by
  obtain ⟨T, hT⟩ : ∃ T, T = lineT s := ⟨_, rfl⟩
  have HT := Lib.hid hT
  have k1 : (2097152 : Int) < (s.by'.length : Int) := by omega
  clear hlong
  obtain ⟨L, hL⟩ : ∃ L, L = wordsL s.kd := ⟨_, rfl⟩
  obtain ⟨N, hN⟩ : ∃ N, N = L.length := ⟨_, rfl⟩
  have HM := Lib.hid (fun W => may_any W s hi.1 p c)
  rw [h] at HM
  have HWD := Lib.hid (fun W => words_any W s.kd hi.1)
  rw [← hL] at HWD
  have HS := Lib.hid (And.intro hi h)
  obtain ⟨kd, la, sl, pl, by'⟩ := s
  obtain rfl : kd = 1 := hk
  have HRD := Lib.hid (show Rd w (.slice p by'.length c) (u8s by') from hrd)
  clear hrd
  replace HM := Lib.hid (fun W => show Calls Tryz.prog 38 #[.agg #[.int .u8 1, .int .i64 la, .int .i64 sl, .int .i64 pl, .slice p by'.length c]] W _ from HM.out W)
  replace HWD := Lib.hid (fun W => show Calls Tryz.prog 54 #[.int .u8 1] W _ from HWD.out W)
  show Calls Tryz.prog 28 #[.agg #[.int .u8 1, .int .i64 la, .int .i64 sl, .int .i64 pl, .slice p by'.length c]] w _
  have HL := Lib.hid hL
  have HN := Lib.hid hN
  have hL0 : 0 < L.length := by rw [hL]; exact List.length_pos_iff.2 (wordsL_ne (may_kind h))
  have hL2 : L.length ≤ 2 := by rw [hL]; exact wordsL_len _
  have HLL := Lib.hid (And.intro hL0 hL2)
  obtain ⟨n, hn⟩ : ∃ n, n = by'.length := ⟨_, rfl⟩
  rw [← hn] at HM ⊢
  have HNB := Lib.hid hn
  have HTB := Lib.hid htb
  have k1 : (2097152 : Int) < (n : Int) := by rw [hn]; exact k1
  clear hT hL hN hi h hL0 hL2 hn htb
  obtain ⟨bx, hbx⟩ : ∃ bx, bx = w.heap.size := ⟨_, rfl⟩
  obtain ⟨w1, hw1⟩ : ∃ w1, w.alloc (.cells #[.int .u8 1, .int .i64 la, .int .i64 sl, .int .i64 pl, .slice p n c] 64) = w1 := ⟨_, rfl⟩
  have hb : Blk w1 bx #[.int .u8 1, .int .i64 la, .int .i64 sl, .int .i64 pl, .slice p n c] 64 := by rw [← hw1]; exact Blk.new_at hbx _ _
  have q1 := hb.st
  have H1 := Lib.hid (And.intro hb (show Fr [] w w1 by rw [← hw1]; exact (Fr.refl _ _).alloc _))
  have HW1 := Lib.hid hw1
  have HBX := Lib.hid hbx
  clear hb hbx hw1
  go_enter Tryz.func28, Tryz.ntmps28
  go_upto_region 1 with fail
  rw [HW1.out, ← HBX.out]
  go_wp2_with fail
  (with_reducible refine (HM.out _).mono ?_)
  rintro e w2 ⟨rfl, f2⟩
  have H2 := Lib.hid (show Blk w2 bx _ 64 ∧ Fr [] w w2 from ⟨f2.blk H1.out.1 (by simp), H1.out.2.trans f2 (by simp)⟩)
  have c0 := H2.out.1.at 0 (v := .int .u8 1) rfl
  clear f2 q1
  go_wp2_with fail
  (with_reducible refine (HWD.out _).mono ?_)
  rintro e w3 ⟨v3, rfl, hv3, f3⟩
  obtain ⟨g, c3, rfl, hcap3, hcl3⟩ := slot_of (hv3.own (by have := HLL.out; omega)) HLL.out.1
  have H3 := Lib.hid (show Blk w3 bx _ 64 ∧ Fr [] w w3 ∧ StrV w3 w.heap.size (.slice (some ⟨g, 0, none⟩) L.length c3) L from ⟨f3.blk H2.out.1 (by simp), H2.out.2.trans f3 (by simp), (hv3.own (by have := HLL.out; omega)).1, fun q hq => Nat.le_trans H2.out.2.size ((hv3.own (by have := HLL.out; omega)).2 q hq)⟩)
  have H3C := Lib.hid (And.intro hcap3 hcl3)
  rw [← HN.out]
  clear c0 hv3 f3 hcap3 hcl3
  have c0 := H3.out.1.at 0 (v := .int .u8 1) rfl
  have c4 := H3.out.1.at 4 (v := .slice p n c) rfl
  have H3F := Lib.hid H3.out.2.1
  go_wp2
  go_ret2
  exact ⟨rfl, H3F.out⟩
set_option maxRecDepth 100000 in
set_option maxHeartbeats 8000000 in
theorem cmd_nil (w : World) (s : St) (p : Option Addr) (c : Nat) (hi : StI s) (h : mayS s = true) (htb : TB w) (hk : s.kd = 1) (hrd : Rd w (.slice p s.by'.length c) (u8s s.by')) (hnil : s.by' = []) :
    Calls Tryz.prog 28 #[s.val (.slice p s.by'.length c)] w fun e w' => e = .returned (.tuple #[.string (if 4194304 < (lineT s).size then ⟨#[]⟩ else lineT s), .int .i64 (if 4194304 < (lineT s).size then 4 else 0)]) ∧ Fr [] w w' := by
  obtain ⟨T, hT⟩ : ∃ T, T = lineT s := ⟨_, rfl⟩
  have HT := Lib.hid hT
  rw [← hT]
  obtain ⟨R, hR⟩ : ∃ R : ByteArray, R = (if 4194304 < T.size then ⟨#[]⟩ else T) := ⟨_, rfl⟩
  obtain ⟨E, hE⟩ : ∃ E : Int, E = (if 4194304 < T.size then 4 else 0) := ⟨_, rfl⟩
  rw [← hR, ← hE]
  have HRE := Lib.hid (And.intro hR hE)
  clear hR hE
  have HNIL := Lib.hid hnil
  clear hnil
  obtain ⟨L, hL⟩ : ∃ L, L = wordsL s.kd := ⟨_, rfl⟩
  obtain ⟨N, hN⟩ : ∃ N, N = L.length := ⟨_, rfl⟩
  have HM := Lib.hid (fun W => may_any W s hi.1 p c)
  rw [h] at HM
  have HWD := Lib.hid (fun W => words_any W s.kd hi.1)
  rw [← hL] at HWD
  have HS := Lib.hid (And.intro hi h)
  obtain ⟨kd, la, sl, pl, by'⟩ := s
  obtain rfl : kd = 1 := hk
  have HRD := Lib.hid (show Rd w (.slice p by'.length c) (u8s by') from hrd)
  clear hrd
  replace HM := Lib.hid (fun W => show Calls Tryz.prog 38 #[.agg #[.int .u8 1, .int .i64 la, .int .i64 sl, .int .i64 pl, .slice p by'.length c]] W _ from HM.out W)
  replace HWD := Lib.hid (fun W => show Calls Tryz.prog 54 #[.int .u8 1] W _ from HWD.out W)
  show Calls Tryz.prog 28 #[.agg #[.int .u8 1, .int .i64 la, .int .i64 sl, .int .i64 pl, .slice p by'.length c]] w _
  have HL := Lib.hid hL
  have HN := Lib.hid hN
  have hL0 : 0 < L.length := by rw [hL]; exact List.length_pos_iff.2 (wordsL_ne (may_kind h))
  have hL2 : L.length ≤ 2 := by rw [hL]; exact wordsL_len _
  have HLL := Lib.hid (And.intro hL0 hL2)
  obtain ⟨n, hn⟩ : ∃ n, n = by'.length := ⟨_, rfl⟩
  rw [← hn] at HM ⊢
  have HNB := Lib.hid hn
  have HTB := Lib.hid htb
  have hn0 : n = 0 := by rw [hn, show by' = [] from HNIL.out]; rfl
  have k0 : (n : Int) ≤ 0 := by omega
  have k00 : ¬ (0 : Int) < (n : Int) := by omega
  have k1 : (n : Int) ≤ 2097152 := by omega
  clear hn0
  have HSH := Lib.hid (show by'.length ≤ 2097152 by rw [show by' = [] from HNIL.out]; decide)
  clear hT hL hN hi h hL0 hL2 hn htb
  obtain ⟨bx, hbx⟩ : ∃ bx, bx = w.heap.size := ⟨_, rfl⟩
  obtain ⟨w1, hw1⟩ : ∃ w1, w.alloc (.cells #[.int .u8 1, .int .i64 la, .int .i64 sl, .int .i64 pl, .slice p n c] 64) = w1 := ⟨_, rfl⟩
  have hb : Blk w1 bx #[.int .u8 1, .int .i64 la, .int .i64 sl, .int .i64 pl, .slice p n c] 64 := by rw [← hw1]; exact Blk.new_at hbx _ _
  have q1 := hb.st
  have H1 := Lib.hid (And.intro hb (show Fr [] w w1 by rw [← hw1]; exact (Fr.refl _ _).alloc _))
  have HW1 := Lib.hid hw1
  have HBX := Lib.hid hbx
  clear hb hbx hw1
  go_enter Tryz.func28, Tryz.ntmps28
  go_upto_region 1 with fail
  rw [HW1.out, ← HBX.out]
  go_wp2_with fail
  (with_reducible refine (HM.out _).mono ?_)
  rintro e w2 ⟨rfl, f2⟩
  have H2 := Lib.hid (show Blk w2 bx _ 64 ∧ Fr [] w w2 from ⟨f2.blk H1.out.1 (by simp), H1.out.2.trans f2 (by simp)⟩)
  have c0 := H2.out.1.at 0 (v := .int .u8 1) rfl
  clear f2 q1
  go_wp2_with fail
  (with_reducible refine (HWD.out _).mono ?_)
  rintro e w3 ⟨v3, rfl, hv3, f3⟩
  obtain ⟨g, c3, rfl, hcap3, hcl3⟩ := slot_of (hv3.own (by have := HLL.out; omega)) HLL.out.1
  have H3 := Lib.hid (show Blk w3 bx _ 64 ∧ Fr [] w w3 ∧ StrV w3 w.heap.size (.slice (some ⟨g, 0, none⟩) L.length c3) L from ⟨f3.blk H2.out.1 (by simp), H2.out.2.trans f3 (by simp), (hv3.own (by have := HLL.out; omega)).1, fun q hq => Nat.le_trans H2.out.2.size ((hv3.own (by have := HLL.out; omega)).2 q hq)⟩)
  have H3C := Lib.hid (And.intro hcap3 hcl3)
  rw [← HN.out]
  clear c0 hv3 f3 hcap3 hcl3
  have c0 := H3.out.1.at 0 (v := .int .u8 1) rfl
  have c4 := H3.out.1.at 4 (v := .slice p n c) rfl
  obtain ⟨X, hX⟩ : ∃ X, X = strOfNums [45] := ⟨_, rfl⟩
  have HX := Lib.hid (show X = strOfNums (hexN by') by rw [hX, show by' = [] from HNIL.out]; rfl)
  have HX2 := Lib.hid hX
  have HOW0 := Lib.hid (World.ownsRow_nil (w3.alloc (.cells #[.int .u8 45] 5)) 0 5 1)
  have HNW0 := Lib.hid (new_list w3 [.int .u8 45] 5 _ rfl)
  clear hX
  have HTE := Lib.hid (show T = joinT (L ++ [X]) by rw [HT.out, HL.out, HX.out]; rfl)
  have HTSZ := Lib.hid (show T.size ≤ 4294967296 from by
    rw [HT.out, lineT_one rfl]
    show 8 + (if by' = [] then 1 else 2 * by'.length) ≤ _
    have := HSH.out
    split <;> omega)
  go_wp2_with fail
  go_loopw [5, 35] (fun v iv wr => v = .slice none 0 0 ∧ iv = .int .i64 0 ∧ wr = w3) (fun _ _ _ => 0)
  case atStart => exact ⟨rfl, rfl, rfl⟩
  case round =>
    obtain ⟨rfl, rfl, hwr⟩ := hrel
    obtain ⟨wi, hwi⟩ : ∃ wi : World, wi = wr := ⟨_, rfl⟩
    rw [← hwi] at hwr ⊢
    clear hwi
    rw [hwr]
    clear hwr
    have hu42 : ∀ (w : World) (a : Option Addr) (n c n' c' : Nat), (binOp .eql 62 (.slice a n c) (.slice none n' c')).run Tryz.prog w = .ok (.bool a.isNone) w := fun w a n c n' c' => Lib.run_eql_slice_nil w _ _ a n c n' c' Tryz.underlying62
    go_upto_region 17 with (at_builtin; go_must (refine wpList_app _ rfl _ _ 62 rfl 5 (.int .u8 0) 1 1 Tryz.underlying62 infoU8 rfl (by decide) (.slice none 0 0) 0 [] rfl HOW0.out ⟨w3.heap.size, 0, none⟩ 1 1 [.int .u8 45] rfl rfl HNW0.out (by simp [Value.oneCell']) (by unfold maxLen; omega) (by omega) ?_); intro v4 w4 happ; have HAP0 := Lib.hid happ; clear happ)
    obtain ⟨pv, cv, rfl⟩ := own_form HAP0.out.own
    have HF4 := Lib.hid (show Fr [] w3 w4 from ((Fr.refl [] w3).alloc _).trans HAP0.out.fr (fun x hx => by simp [Value.ownBlock] at hx))
    have cvv : (convert 62 9 (.slice pv 1 cv)).run Tryz.prog w4 = .ok (.string X) w4 := by rw [HX2.out]; exact conv_rd _ _ _ (Rd.of_own HAP0.out.own)
    have HOW := Lib.hid (show (w4.alloc (.cells #[.string X] 9)).ownsRow 0 9 1 (.slice (some ⟨g, 0, none⟩) N c3) N (strs L) by rw [HN.out]; exact (own_fr H3.out.2.2.1 (HF4.out.trans ((Fr.refl [] w4).alloc _) (by simp)) (by simp)))
    have HNW := Lib.hid (new_list w4 [.string X] 9 _ rfl)
    have HNL := Lib.hid (show N ≤ 2 by rw [HN.out]; exact HLL.out.2)
    have HFW := Lib.hid (show Fr [] w3 (w4.alloc (.cells #[.string X] 9)) from HF4.out.trans ((Fr.refl [] w4).alloc _) (by simp))
    have HN5 := Lib.hid (show w.heap.size ≤ w.heap.size ∧ w.heap.size ≤ (w4.alloc (.cells #[.string X] 9)).heap.size from ⟨Nat.le_refl _, Nat.le_trans H3.out.2.1.size HFW.out.size⟩)
    have HPA := Lib.hid (fun v' W' (q : Appended (w4.alloc (.cells #[.string X] 9)) 9 1 (.slice (some ⟨g, 0, none⟩) N c3) (N + 1) (strs L ++ [.string X]) v' W') => show Appended (w4.alloc (.cells #[.string X] 9)) 9 1 (.slice (some ⟨g, 0, none⟩) L.length c3) (L.length + [X].length) (strs L ++ strs [X]) v' W' from by rw [← HN.out]; exact q)
    have HML := Lib.hid (show 0 < (L ++ [X]).length by simp)
    obtain ⟨M, hM⟩ : ∃ M, (L ++ [X]).length = M := ⟨_, rfl⟩
    have HMM := Lib.hid hM
    clear hM
    go_wp2_with (at_builtin; go_must (refine wpList_app _ rfl _ _ 46 rfl 9 (.string ⟨#[]⟩) 1 16 Tryz.underlying46 infoS9 rfl (by decide) (.slice (some ⟨g, 0, none⟩) N c3) N (strs L) rfl HOW.out ⟨w4.heap.size, 0, none⟩ 1 1 [.string X] rfl rfl HNW.out (by simp [Value.oneCell']) (by have := HNL.out; unfold maxLen; omega) (by have := HNL.out; omega) ?_); intro v5 w5 happ; have HAP := Lib.hid happ; clear happ; obtain ⟨v5', hv5⟩ : ∃ x, x = v5 := ⟨_, rfl⟩; rw [← hv5] at HAP ⊢; clear hv5; obtain ⟨g5, c5, rfl, hcap5, hcl5⟩ := slot_of (H3.out.2.2.pushL (X := [X]) H3.out.2.1 HFW.out HN5.out (HPA.out _ _ HAP.out)).1 HML.out; have H5 := Lib.hid (And.intro (H3.out.2.2.pushL (X := [X]) H3.out.2.1 HFW.out HN5.out (HPA.out _ _ HAP.out)) (And.intro hcap5 hcl5)); clear hcap5 hcl5; rw [HMM.out])
    have HJ := Lib.hid (join_any w5 g5 c5 (L ++ [X]) H5.out.2.2 (own_lt H5.out.1.1.1 rfl) (by have := HLL.out; simp; omega) H5.out.2.1 (by rw [← HTE.out]; exact HTSZ.out))
    rw [HMM.out] at HJ
    (with_reducible refine HJ.out.mono ?_)
    rintro e w9 ⟨rfl, f9⟩
    have H9 := Lib.hid (H5.out.1.2.trans f9 (by simp))
    clear f9
    rw [← HTE.out]
    by_cases hov : 4194304 < T.size
    · have k9 : (4194304 : Int) < (T.size : Int) := by omega
      obtain rfl : R = ⟨#[]⟩ := by rw [HRE.out.1, if_pos hov]
      obtain rfl : E = 4 := by rw [HRE.out.2, if_pos hov]
      clear hov
      go_wp2
      go_ret2
      exact ⟨rfl, H9.out⟩
    · have k9 : (T.size : Int) ≤ 4194304 := by omega
      obtain rfl : R = T := by rw [HRE.out.1, if_neg hov]
      obtain rfl : E = 0 := by rw [HRE.out.2, if_neg hov]
      clear hov
      go_wp2
      go_ret2
      exact ⟨rfl, H9.out⟩
set_option maxRecDepth 100000 in
set_option maxHeartbeats 8000000 in
theorem cmd_main (w : World) (s : St) (p : Option Addr) (c : Nat) (hi : StI s) (h : mayS s = true) (htb : TB w) (hk : s.kd = 1) (hrd : Rd w (.slice p s.by'.length c) (u8s s.by')) (hnil : s.by' ≠ []) (hshort : s.by'.length ≤ 2097152) :
    Calls Tryz.prog 28 #[s.val (.slice p s.by'.length c)] w fun e w' => e = .returned (.tuple #[.string (if 4194304 < (lineT s).size then ⟨#[]⟩ else lineT s), .int .i64 (if 4194304 < (lineT s).size then 4 else 0)]) ∧ Fr [] w w' := by
  obtain ⟨T, hT⟩ : ∃ T, T = lineT s := ⟨_, rfl⟩
  have HT := Lib.hid hT
  rw [← hT]
  obtain ⟨R, hR⟩ : ∃ R : ByteArray, R = (if 4194304 < T.size then ⟨#[]⟩ else T) := ⟨_, rfl⟩
  obtain ⟨E, hE⟩ : ∃ E : Int, E = (if 4194304 < T.size then 4 else 0) := ⟨_, rfl⟩
  rw [← hR, ← hE]
  have HRE := Lib.hid (And.intro hR hE)
  clear hR hE
  have HNIL := Lib.hid hnil
  have HSH := Lib.hid hshort
  clear hnil hshort
  obtain ⟨L, hL⟩ : ∃ L, L = wordsL s.kd := ⟨_, rfl⟩
  obtain ⟨N, hN⟩ : ∃ N, N = L.length := ⟨_, rfl⟩
  have HM := Lib.hid (fun W => may_any W s hi.1 p c)
  rw [h] at HM
  have HWD := Lib.hid (fun W => words_any W s.kd hi.1)
  rw [← hL] at HWD
  have HS := Lib.hid (And.intro hi h)
  obtain ⟨kd, la, sl, pl, by'⟩ := s
  obtain rfl : kd = 1 := hk
  have HRD := Lib.hid (show Rd w (.slice p by'.length c) (u8s by') from hrd)
  clear hrd
  replace HM := Lib.hid (fun W => show Calls Tryz.prog 38 #[.agg #[.int .u8 1, .int .i64 la, .int .i64 sl, .int .i64 pl, .slice p by'.length c]] W _ from HM.out W)
  replace HWD := Lib.hid (fun W => show Calls Tryz.prog 54 #[.int .u8 1] W _ from HWD.out W)
  show Calls Tryz.prog 28 #[.agg #[.int .u8 1, .int .i64 la, .int .i64 sl, .int .i64 pl, .slice p by'.length c]] w _
  have HL := Lib.hid hL
  have HN := Lib.hid hN
  have hL0 : 0 < L.length := by rw [hL]; exact List.length_pos_iff.2 (wordsL_ne (may_kind h))
  have hL2 : L.length ≤ 2 := by rw [hL]; exact wordsL_len _
  have HLL := Lib.hid (And.intro hL0 hL2)
  obtain ⟨n, hn⟩ : ∃ n, n = by'.length := ⟨_, rfl⟩
  rw [← hn] at HM ⊢
  have HNB := Lib.hid hn
  have HTB := Lib.hid htb
  replace HSH := Lib.hid (show by'.length ≤ 2097152 from HSH.out)
  have k1 : (n : Int) ≤ 2097152 := by rw [hn]; have := HSH.out; omega
  have kc : (n : Int) ≤ (c : Int) := by
    obtain ⟨p', c', he, hcc, -⟩ := HRD.out
    have hec := (Value.slice.inj he).2.2
    rw [hn]
    have : (u8s by').length = by'.length := by simp [u8s]
    omega
  clear hT hL hN hi h hL0 hL2 hn htb
  obtain ⟨bx, hbx⟩ : ∃ bx, bx = w.heap.size := ⟨_, rfl⟩
  obtain ⟨w1, hw1⟩ : ∃ w1, w.alloc (.cells #[.int .u8 1, .int .i64 la, .int .i64 sl, .int .i64 pl, .slice p n c] 64) = w1 := ⟨_, rfl⟩
  have hb : Blk w1 bx #[.int .u8 1, .int .i64 la, .int .i64 sl, .int .i64 pl, .slice p n c] 64 := by rw [← hw1]; exact Blk.new_at hbx _ _
  have q1 := hb.st
  have H1 := Lib.hid (And.intro hb (show Fr [] w w1 by rw [← hw1]; exact (Fr.refl _ _).alloc _))
  have HW1 := Lib.hid hw1
  have HBX := Lib.hid hbx
  clear hb hbx hw1
  go_enter Tryz.func28, Tryz.ntmps28
  go_upto_region 1 with fail
  rw [HW1.out, ← HBX.out]
  go_wp2_with fail
  (with_reducible refine (HM.out _).mono ?_)
  rintro e w2 ⟨rfl, f2⟩
  have H2 := Lib.hid (show Blk w2 bx _ 64 ∧ Fr [] w w2 from ⟨f2.blk H1.out.1 (by simp), H1.out.2.trans f2 (by simp)⟩)
  have c0 := H2.out.1.at 0 (v := .int .u8 1) rfl
  clear f2 q1
  go_wp2_with fail
  (with_reducible refine (HWD.out _).mono ?_)
  rintro e w3 ⟨v3, rfl, hv3, f3⟩
  obtain ⟨g, c3, rfl, hcap3, hcl3⟩ := slot_of (hv3.own (by have := HLL.out; omega)) HLL.out.1
  have H3 := Lib.hid (show Blk w3 bx _ 64 ∧ Fr [] w w3 ∧ StrV w3 w.heap.size (.slice (some ⟨g, 0, none⟩) L.length c3) L from ⟨f3.blk H2.out.1 (by simp), H2.out.2.trans f3 (by simp), (hv3.own (by have := HLL.out; omega)).1, fun q hq => Nat.le_trans H2.out.2.size ((hv3.own (by have := HLL.out; omega)).2 q hq)⟩)
  have H3C := Lib.hid (And.intro hcap3 hcl3)
  rw [← HN.out]
  clear c0 hv3 f3 hcap3 hcl3
  have c0 := H3.out.1.at 0 (v := .int .u8 1) rfl
  have hpos : 0 < by'.length := List.length_pos_iff.2 HNIL.out
  have hlu : (u8s by').length = by'.length := by simp [u8s]
  obtain ⟨gb, ob, rfl, hcl⟩ : ∃ g o, p = some ⟨g, o, none⟩ ∧ ∀ (j : Nat) v, (u8s by')[j]? = some v → w.cell? ⟨g, o + j, none⟩ = some v := by
    obtain ⟨p', c', he, hcc, h0⟩ := HRD.out
    obtain rfl := (Value.slice.inj he).1
    rcases h0 with h0 | h0
    · exfalso; rw [hlu] at h0; omega
    · exact h0
  have HCL := Lib.hid (And.intro hcl HS.out.1.2.2.2.2)
  clear hpos hlu hcl
  have c4 := H3.out.1.at 4 (v := .slice (some ⟨gb, ob, none⟩) n c) rfl
  go_wp2_with fail
  go_loopw [5, 35] (fun v iv wr => ∃ i : Nat, iv = .int .i64 i ∧ i ≤ by'.length ∧ BytV wr w3.heap.size v (hexN' (by'.take i)) ∧ Fr [] w3 wr) (fun _ iv _ => by'.length - (match iv with | .int _ q => q.toNat | _ => 0))
  case atStart => exact ⟨0, rfl, Nat.zero_le _, BytV.nil _ _, Fr.refl _ _⟩
  case round =>
    obtain ⟨i, rfl, hi, hv, hf⟩ := hrel
    obtain ⟨wi, hwi⟩ : ∃ wi : World, wi = wr := ⟨_, rfl⟩
    rw [← hwi] at hf hv ⊢
    clear hwi
    obtain ⟨pv, cv, rfl⟩ := hv.form
    have hi0 : (0 : Int) ≤ (i : Int) := by omega
    have hi4 : (i : Int) ≤ 2097152 := by have := HSH.out; omega
    obtain ⟨D, hD⟩ : ∃ D, hexN' (by'.take i) = D := ⟨_, rfl⟩
    rw [hD] at hv ⊢
    have HD := Lib.hid hD
    have hlen : D.length ≤ 4194304 := by rw [← hD, hexN'_len, List.length_take]; have := HSH.out; omega
    have HVI := Lib.hid hi
    obtain ⟨m, hm⟩ : ∃ m, m = D.length := ⟨_, rfl⟩
    have HMM := Lib.hid hm
    have HLN := Lib.hid (show m ≤ 4194304 by rw [hm]; exact hlen)
    have HV := Lib.hid (show BytV wi w3.heap.size (.slice pv m cv) D ∧ Fr [] w3 wi ∧ True from ⟨by rw [hm]; exact hv, hf, trivial⟩)
    have HV1 := Lib.hid (show wi.ownsRow 0 5 1 (.slice pv m cv) m (u8s D) from by rw [hm]; exact hv.1)
    rw [← hm]
    clear hv hf hlen hi hD hm
    by_cases hlt : i < by'.length
    · have d1 : (i : Int) < (n : Int) := by rw [HNB.out]; omega
      obtain ⟨z, hz⟩ : ∃ z, z = by'[i] := ⟨_, rfl⟩
      have HLT := Lib.hid (show ∃ h : i < by'.length, by'[i] = z from ⟨hlt, hz.symm⟩)
      have hzr := HCL.out.2 z (by rw [hz]; exact List.getElem_mem hlt)
      have hcell := HCL.out.1 i (.int .u8 z) (by rw [hz]; simp [u8s, hlt])
      have cc := ((H3.out.2.1.trans HV.out.2.1 (by simp)).cell (World.block_lt_of_cell? w _ hcell) (by simp)).trans hcell
      have z0 : 0 ≤ z := hzr.1
      have z1 : z < 256 := hzr.2
      clear hlt hz hzr hcell
      go_wp2_with fail
      refine region_tail (by kernel_rfl) (by kernel_rfl) [[], [], [1], [1, 2], [], [4], [4, 5], [1, 2, 3, 4, 5, 6], [0, 1, 2, 3, 4, 5, 6, 7], [0, 1, 2, 3, 4, 5, 6, 7, 8]] (by kernel_rfl) 8 (by decide) (by kernel_rfl) [.is (.slice pv m cv), .is (.int .u8 z), .is (.int .u8 (z / 16)), .is (.int .u8 (digR (z / 16))), .is (.int .u8 z), .is (.int .u8 (z % 16)), .is (.int .u8 (digR (z % 16))), .slot2 (digR (z / 16)) (digR (z % 16))] 76 rfl (by kernel_rfl) ?_ ?_
      · intro q a1 W1 i hi hnq hd hG K hK
        have hlt : i < 8 := hi
        have hc : i = 0 ∨ i = 1 ∨ i = 2 ∨ i = 3 ∨ i = 4 ∨ i = 5 ∨ i = 6 ∨ i = 7 := by omega
        rcases hc with rfl | rfl | rfl | rfl | rfl | rfl | rfl | rfl
        · have e5 := hG.yet 76 (by kernel_rfl) 5 9 (by decide) rfl (fun h => hnq (hG.closed 9 h _ rfl ⟨0, .phase⟩ (by simp) rfl))
          refine op_do rfl (wanted_none rfl) hK (fun K' hK' => ?_)
          unfold Oper.wp
          go_simp
          exact hK' _ _ (Fr.refl _ _) rfl
        · have e7 := hG.old 7 (by kernel_rfl)
          refine op_do rfl (wanted_none rfl) hK (fun K' hK' => ?_)
          unfold Oper.wp
          go_simp
          exact hK' _ _ (Fr.refl _ _) rfl
        · have e40 := hG.val (v := .int .u8 z) 1 40 (hd _ rfl ⟨1, .data⟩ (by simp) rfl) rfl rfl
          refine op_do rfl (wanted_none rfl) hK (fun K' hK' => ?_)
          unfold Oper.wp
          go_simp
          exact hK' _ _ (Fr.refl _ _) rfl
        · have e41 := hG.val (v := .int .u8 (z / 16)) 2 41 (hd _ rfl ⟨2, .data⟩ (by simp) rfl) rfl rfl
          refine op_do rfl (wanted_none rfl) hK (fun K' hK' => ?_)
          unfold Oper.wp
          go_simp
          rw [dif_pos ⟨by omega, by omega⟩, dig_ix (z / 16) (by omega) (by omega)]
          go_simp
          exact hK' _ _ (Fr.refl _ _) rfl
        · have e7 := hG.old 7 (by kernel_rfl)
          refine op_do rfl (wanted_none rfl) hK (fun K' hK' => ?_)
          unfold Oper.wp
          go_simp
          exact hK' _ _ (Fr.refl _ _) rfl
        · have e43 := hG.val (v := .int .u8 z) 4 43 (hd _ rfl ⟨4, .data⟩ (by simp) rfl) rfl rfl
          have qa := and15 z z0 z1
          refine op_do rfl (wanted_none rfl) hK (fun K' hK' => ?_)
          unfold Oper.wp
          go_simp
          exact hK' _ _ (Fr.refl _ _) rfl
        · have e44 := hG.val (v := .int .u8 (z % 16)) 5 44 (hd _ rfl ⟨5, .data⟩ (by simp) rfl) rfl rfl
          refine op_do rfl (wanted_none rfl) hK (fun K' hK' => ?_)
          unfold Oper.wp
          go_simp
          rw [dif_pos ⟨by omega, by omega⟩, dig_ix (z % 16) (by omega) (by omega)]
          go_simp
          exact hK' _ _ (Fr.refl _ _) rfl
        · have e42 := hG.val (v := .int .u8 (digR (z / 16))) 3 42 (hd _ rfl ⟨3, .data⟩ (by simp) rfl) rfl rfl
          have e45 := hG.val (v := .int .u8 (digR (z % 16))) 6 45 (hd _ rfl ⟨6, .data⟩ (by simp) rfl) rfl rfl
          refine op_do rfl (wanted_none rfl) hK (fun K' hK' => ?_)
          unfold Oper.wp
          go_simp
          exact hK' _ _ ((Fr.refl _ _).alloc _) ⟨_, rfl, Blk.new _ _ _⟩
      · intro q a1 W1 hq hG
        have f1 := hG.grown
        obtain ⟨vs, hv, rfl⟩ := hG.front 76 rfl (by kernel_rfl) (by decide) hq [(0, 39), (1, 40), (2, 41), (3, 42), (4, 43), (5, 44), (6, 45), (7, 46)] (by kernel_rfl)
        clear hG hq
        have r0 : vs 0 = .slice pv m cv := hv 0 39 (by decide) rfl
        have r1 : vs 1 = .int .u8 z := hv 1 40 (by decide) rfl
        have r2 : vs 2 = .int .u8 (z / 16) := hv 2 41 (by decide) rfl
        have r3 : vs 3 = .int .u8 (digR (z / 16)) := hv 3 42 (by decide) rfl
        have r4 : vs 4 = .int .u8 z := hv 4 43 (by decide) rfl
        have r5 : vs 5 = .int .u8 (z % 16) := hv 5 44 (by decide) rfl
        have r6 : vs 6 = .int .u8 (digR (z % 16)) := hv 6 45 (by decide) rfl
        have r7 := hv 7 46 (by decide) rfl
        simp only [List.drop_succ_cons, List.drop_zero, lay, List.foldl_cons, List.foldl_nil, r0, r1, r2, r3, r4, r5, r6]
        simp only [List.setIfInBounds_toArray, List.set_cons_zero, List.set_cons_succ]
        clear hv r0 r1 r2 r3 r4 r5 r6
        generalize vs 7 = x7 at *
        clear vs
        have HF1 := Lib.hid f1
        obtain ⟨ga, rfl, hga⟩ := r7
        have HGB := Lib.hid hga
        have HOW := Lib.hid (own_fr HV1.out f1 (by simp))
        clear f1 hga
        go_wp2_with (at_builtin; go_must (refine wpList_app _ rfl _ _ 62 rfl 5 (.int .u8 0) 1 1 Tryz.underlying62 infoU8 rfl (by decide) (.slice pv m cv) m (u8s D) rfl HOW.out ⟨ga, 0, none⟩ 2 2 [.int .u8 (digR (z / 16)), .int .u8 (digR (z % 16))] rfl rfl (fun j u hu => by rw [Addr.add_lit]; simpa using HGB.out.at j (v := u) (by simpa using hu)) (by simp [Value.oneCell']) (by have := HLN.out; unfold maxLen; omega) (by have := HLN.out; omega) ?_); intro v1 w4 happ; have HAP := Lib.hid happ; clear happ)
        have hv0 := HV.out.1
        have f5 : Fr [] w3 W1 := HV.out.2.1.trans HF1.out (by simp)
        have f4 : Fr [] w3 w4 := f5.trans HAP.out.fr (fun x hx => .inr (hv0.2 x (by simpa using hx)))
        have hgo : ∀ g, v1.ownBlock = some g → w3.heap.size ≤ g := fun g hg => by
          rcases HAP.out.place with q | q
          · exact hv0.2 g (by rw [← q]; exact hg)
          · rw [q] at hg; cases hg; exact f5.size
        have hl2 : (hexN' (by'.take (i + 1))) = D ++ [digR (z / 16), digR (z % 16)] := by
          obtain ⟨hq, he⟩ := HLT.out
          rw [List.take_succ_eq_append_getElem hq, hexN'_app, HD.out, he]
        have hown : w4.ownsRow 0 5 1 v1 (hexN' (by'.take (i + 1))).length (u8s (hexN' (by'.take (i + 1)))) := by
          have := HAP.out.own
          rw [hl2, List.length_append, ← HMM.out]
          simpa [u8s] using this
        exact ⟨⟨i + 1, rfl, by have := HLT.out.choose; omega, ⟨hown, hgo⟩, f4⟩, by have := HLT.out.choose; show by'.length - ((i : Int) + 1).toNat < by'.length - ((i : Nat) : Int).toNat; omega⟩
    · obtain rfl : i = by'.length := by have := HVI.out; omega
      have d1 : ¬ ((by'.length : Int) < (n : Int)) := by rw [HNB.out]; omega
      have d2 : (n : Int) ≤ (by'.length : Int) := by rw [HNB.out]; exact Int.le_refl _
      have hDl : D = hexN by' := by rw [← HD.out, List.take_of_length_le (Nat.le_refl _)]; unfold hexN; rw [if_neg HNIL.out]
      obtain ⟨gv, rfl⟩ : ∃ gv, pv = some ⟨gv, 0, none⟩ := by
        have h1 := HV1.out.2
        rcases h1 with ⟨h2, h4⟩ | ⟨g, cap, cur, h2, _⟩
        · have h3 := HMM.out
          rw [h4, ← HD.out, hexN'_len, List.take_of_length_le (Nat.le_refl _)] at h3
          exact absurd (List.length_eq_zero_iff.1 (by omega)) HNIL.out
        · exact ⟨g, (Value.slice.inj h2).1⟩
      obtain ⟨X, hX⟩ : ∃ X, X = strOfNums D := ⟨_, rfl⟩
      have HX := Lib.hid (show X = strOfNums (hexN by') by rw [hX, hDl])
      have HF4 := Lib.hid (show Fr [] w3 wi from HV.out.2.1)
      have cvv : (convert 62 9 (.slice (some ⟨gv, 0, none⟩) m cv)).run Tryz.prog wi = .ok (.string X) wi := by rw [hX]; exact conv_rd _ _ _ (Rd.of_own HV1.out)
      clear hlt hX hDl
      have hu42 : ∀ (w : World) (a : Option Addr) (n c n' c' : Nat), (binOp .eql 62 (.slice a n c) (.slice none n' c')).run Tryz.prog w = .ok (.bool a.isNone) w := fun w a n c n' c' => Lib.run_eql_slice_nil w _ _ a n c n' c' Tryz.underlying62
      have HTE := Lib.hid (show T = joinT (L ++ [X]) by rw [HT.out, HL.out, HX.out]; rfl)
      have HTSZ := Lib.hid (show T.size ≤ 4294967296 from by
        rw [HT.out, lineT_one rfl]
        show 8 + (if by' = [] then 1 else 2 * by'.length) ≤ _
        have := HSH.out
        split <;> omega)
      clear HMM
      have HOW := Lib.hid (show (wi.alloc (.cells #[.string X] 9)).ownsRow 0 9 1 (.slice (some ⟨g, 0, none⟩) N c3) N (strs L) by rw [HN.out]; exact (own_fr H3.out.2.2.1 (HF4.out.trans ((Fr.refl [] wi).alloc _) (by simp)) (by simp)))
      have HNW := Lib.hid (new_list wi [.string X] 9 _ rfl)
      have HNL := Lib.hid (show N ≤ 2 by rw [HN.out]; exact HLL.out.2)
      have HFW := Lib.hid (show Fr [] w3 (wi.alloc (.cells #[.string X] 9)) from HF4.out.trans ((Fr.refl [] wi).alloc _) (by simp))
      have HN5 := Lib.hid (show w.heap.size ≤ w.heap.size ∧ w.heap.size ≤ (wi.alloc (.cells #[.string X] 9)).heap.size from ⟨Nat.le_refl _, Nat.le_trans H3.out.2.1.size HFW.out.size⟩)
      have HPA := Lib.hid (fun v' W' (q : Appended (wi.alloc (.cells #[.string X] 9)) 9 1 (.slice (some ⟨g, 0, none⟩) N c3) (N + 1) (strs L ++ [.string X]) v' W') => show Appended (wi.alloc (.cells #[.string X] 9)) 9 1 (.slice (some ⟨g, 0, none⟩) L.length c3) (L.length + [X].length) (strs L ++ strs [X]) v' W' from by rw [← HN.out]; exact q)
      have HML := Lib.hid (show 0 < (L ++ [X]).length by simp)
      obtain ⟨M, hM⟩ : ∃ M, (L ++ [X]).length = M := ⟨_, rfl⟩
      have HMM := Lib.hid hM
      clear hM
      go_wp2_with (at_builtin; go_must (refine wpList_app _ rfl _ _ 46 rfl 9 (.string ⟨#[]⟩) 1 16 Tryz.underlying46 infoS9 rfl (by decide) (.slice (some ⟨g, 0, none⟩) N c3) N (strs L) rfl HOW.out ⟨wi.heap.size, 0, none⟩ 1 1 [.string X] rfl rfl HNW.out (by simp [Value.oneCell']) (by have := HNL.out; unfold maxLen; omega) (by have := HNL.out; omega) ?_); intro v5 w5 happ; have HAP := Lib.hid happ; clear happ; obtain ⟨v5', hv5⟩ : ∃ x, x = v5 := ⟨_, rfl⟩; rw [← hv5] at HAP ⊢; clear hv5; obtain ⟨g5, c5, rfl, hcap5, hcl5⟩ := slot_of (H3.out.2.2.pushL (X := [X]) H3.out.2.1 HFW.out HN5.out (HPA.out _ _ HAP.out)).1 HML.out; have H5 := Lib.hid (And.intro (H3.out.2.2.pushL (X := [X]) H3.out.2.1 HFW.out HN5.out (HPA.out _ _ HAP.out)) (And.intro hcap5 hcl5)); clear hcap5 hcl5; rw [HMM.out])
      have HJ := Lib.hid (join_any w5 g5 c5 (L ++ [X]) H5.out.2.2 (own_lt H5.out.1.1.1 rfl) (by have := HLL.out; simp; omega) H5.out.2.1 (by rw [← HTE.out]; exact HTSZ.out))
      rw [HMM.out] at HJ
      (with_reducible refine HJ.out.mono ?_)
      rintro e w9 ⟨rfl, f9⟩
      have H9 := Lib.hid (H5.out.1.2.trans f9 (by simp))
      clear f9
      rw [← HTE.out]
      by_cases hov : 4194304 < T.size
      · have k9 : (4194304 : Int) < (T.size : Int) := by omega
        obtain rfl : R = ⟨#[]⟩ := by rw [HRE.out.1, if_pos hov]
        obtain rfl : E = 4 := by rw [HRE.out.2, if_pos hov]
        clear hov
        go_wp2
        go_ret2
        exact ⟨rfl, H9.out⟩
      · have k9 : (T.size : Int) ≤ 4194304 := by omega
        obtain rfl : R = T := by rw [HRE.out.1, if_neg hov]
        obtain rfl : E = 0 := by rw [HRE.out.2, if_neg hov]
        clear hov
        go_wp2
        go_ret2
        exact ⟨rfl, H9.out⟩
end Sc
end Go.Proofs.YtbpgpjibljgiiaaGreatDoor
namespace Go.Proofs.YtbpgpjibljgiiaaGreatDoor
open Go.RowKit
set_option linter.unusedVariables false
namespace Sc
theorem sline_any (w : World) (s : St) (p : Option Addr) (c : Nat) (hi : StI s) (htb : TB w) (hrd : Rd w (.slice p s.by'.length c) (u8s s.by')) :
    Calls Tryz.prog 28 #[s.val (.slice p s.by'.length c)] w fun e w' => e = .returned (.tuple #[.string (lineX s), .int .i64 (lineE s)]) ∧ Fr [] w w' := by
  cases h : mayS s with
  | false => exact line_bad w s p c hi.1 h
  | true =>
    have hk := may_kind h
    by_cases h1 : s.kd = 1
    · by_cases hl : 2097152 < s.by'.length
      · rw [(lineE_long h h1 hl).1, (lineE_long h h1 hl).2]
        exact cmd_long w s p c hi h htb h1 hrd hl
      · have e : ∀ Q, Q = (Value.tuple #[.string (lineX s), .int .i64 (lineE s)]) → Q = (Value.tuple #[.string (lineX s), .int .i64 (lineE s)]) := fun _ h => h
        have hr : Value.tuple #[.string (lineX s), .int .i64 (lineE s)] = (.tuple #[.string (if 4194304 < (lineT s).size then ⟨#[]⟩ else lineT s), .int .i64 (if 4194304 < (lineT s).size then 4 else 0)]) := by
          by_cases ho : 4194304 < (lineT s).size
          · rw [if_pos ho, if_pos ho, (lineE_over h ho).1, (lineE_over h ho).2]
          · rw [if_neg ho, if_neg ho, (lineE_good h (fun q => hl q.2) ho).1, (lineE_good h (fun q => hl q.2) ho).2]
        rw [hr]
        by_cases hn : s.by' = []
        · exact cmd_nil w s p c hi h htb h1 hrd hn
        · exact cmd_main w s p c hi h htb h1 hrd hn (by omega)
    · have hs := lineT_small hk h1 hi
      have hg := lineE_good h (fun q => h1 q.1) (by omega)
      rw [hg.1, hg.2]
      rcases (show s.kd = 2 ∨ s.kd = 3 ∨ s.kd = 4 ∨ 5 ≤ s.kd by omega) with q | q | q | q
      · exact line_lane w s p c hi h htb q
      · exact line_turn w s p c hi h htb q
      · exact line_tick w s p c hi h htb q
      · exact line_way w s p c hi h htb q
end Sc
end Go.Proofs.YtbpgpjibljgiiaaGreatDoor
