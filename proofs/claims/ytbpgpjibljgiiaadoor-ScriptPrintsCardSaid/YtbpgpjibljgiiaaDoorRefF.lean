/-
  Script, the document: a line's fields.
-/
import Derived.Test.YtbpgpjibljgiiaaDoorRefQ
namespace Go.Proofs.YtbpgpjibljgiiaaDoor
open Go.RowKit
set_option linter.unusedVariables false
set_option linter.unusedSimpArgs false
attribute [local go_sem] Oper.semAt_some
namespace Sc
/-- The pieces of a text, something put ahead of the first. -/
def pre (a : List UInt8) (l : List UInt8) : List (List UInt8) := match pieces 32 l with
  | [] => [a]
  | p :: r => (a ++ p) :: r
theorem pre_nil (l : List UInt8) : pre [] l = pieces 32 l := by
  unfold pre
  obtain ⟨p, r, h⟩ := List.exists_cons_of_ne_nil (pieces_ne 32 l)
  rw [h]; rfl
theorem pre_end (a : List UInt8) : pre a [] = [a] := by simp [pre, pieces]
theorem pre_blank (a l : List UInt8) : pre a (32 :: l) = a :: pieces 32 l := by simp [pre, pieces]
theorem pre_other (a : List UInt8) {c : UInt8} (l : List UInt8) (h : c ≠ 32) : pre a (c :: l) = pre (a ++ [c]) l := by
  unfold pre
  rw [pieces, if_neg h]
  obtain ⟨p, r, hp⟩ := List.exists_cons_of_ne_nil (pieces_ne 32 l)
  rw [hp]
  simp
theorem infoS9 : (Tryd.prog.info? 9).map (fun i => (i.zero, i.size, i.bytes)) = some (some (.string ⟨#[]⟩), 1, 16) := by kernel_rfl
def mkB (P : List (List UInt8)) : List ByteArray := P.map fun l => ⟨l.toArray⟩
/-- A list of texts that lies in memory of its own. -/
def StrV (W : World) (n0 : Nat) (v : Value) (L : List ByteArray) : Prop := W.ownsRow 0 9 1 v L.length (strs L) ∧ ∀ g, v.ownBlock = some g → n0 ≤ g
theorem StrV.nil (W : World) (n0 : Nat) : StrV W n0 (.slice none 0 0) [] := ⟨World.ownsRow_nil _ _ _ _, by simp [Value.ownBlock]⟩
theorem StrV.form {W : World} {n0 : Nat} {v : Value} {L : List ByteArray} (h : StrV W n0 v L) : ∃ p c, v = .slice p L.length c := own_form h.1
theorem StrV.push {w W W5 W' : World} {v v' : Value} {L : List ByteArray} {x : ByteArray} (h : StrV W w.heap.size v L) (f : Fr [] w W5) (happ : Appended W5 9 1 v (L.length + 1) (strs L ++ [.string x]) v' W') : StrV W' w.heap.size v' (L ++ [x]) ∧ Fr [] w W' := by
  refine ⟨⟨?_, fun g hg => ?_⟩, f.trans happ.fr (fun y hy => .inr (h.2 y (by simpa using hy)))⟩
  · have := happ.own
    rw [List.length_append, List.length_singleton]
    simpa [strs] using this
  · rcases happ.place with q | q
    · exact h.2 g (by rw [← q]; exact hg)
    · rw [q] at hg; cases hg; exact f.size
set_option maxRecDepth 100000 in
set_option maxHeartbeats 4000000 in
theorem fields_any (w : World) (s : ByteArray) (hs : s.size ≤ 4294967296) : Calls Tryd.prog 42 #[.string s] w fun e w' => ∃ v, e = .returned v ∧ StrV w' w.heap.size v (fieldsB s) ∧ Fr [] w w' := by
  have hs1 : (s.size : Int) ≤ 4294967296 := by omega
  have HS := Lib.hid hs
  clear hs
  go_enter Tryd.func42, Tryd.ntmps42
  go_wp2_with fail
  go_loopw [3, 4, 5] (fun v fv iv wr => ∃ (i f : Nat) (P : List (List UInt8)), fv = .int .i64 f ∧ iv = .int .i64 i ∧ P.length ≤ i ∧ StrV wr w.heap.size v (mkB P) ∧ Fr [] w wr ∧ ((i ≤ s.size ∧ f ≤ i ∧ pieces 32 s.data.toList = P ++ pre ((s.data.toList.take i).drop f) (s.data.toList.drop i)) ∨ (i = s.size + 1 ∧ f ≤ i ∧ pieces 32 s.data.toList = P))) (fun _ _ iv _ => s.size + 1 - (match iv with | .int _ q => q.toNat | _ => 0))
  case atStart => exact ⟨0, 0, [], rfl, rfl, Nat.le_refl _, StrV.nil _ _, Fr.refl _ _, .inl ⟨Nat.zero_le _, Nat.le_refl _, by simp [pre_nil]⟩⟩
  case round =>
    obtain ⟨i, f, P, rfl, rfl, hPl, hv, hf, hc⟩ := hrel
    obtain ⟨wi, hwi⟩ : ∃ wi : World, wi = wr := ⟨_, rfl⟩
    rw [← hwi] at hf hv ⊢
    clear hwi
    obtain ⟨pv, cv, rfl⟩ := hv.form
    have hfi : f ≤ i := by rcases hc with h | h <;> exact h.2.1
    have hi1 : i ≤ s.size + 1 := by rcases hc with h | h <;> have := h.1 <;> omega
    have HV := Lib.hid (And.intro hv (And.intro hf (And.intro hPl hc)))
    have k0 : (0 : Int) ≤ (i : Int) := by omega
    have k1 : (i : Int) ≤ 4294967297 := by have := HS.out; omega
    have k2 : (0 : Int) ≤ (f : Int) := by omega
    have k3 : (f : Int) ≤ (i : Int) := by omega
    have HFI := Lib.hid (And.intro hfi hi1)
    clear hv hf hPl hc
    by_cases hle : i ≤ s.size
    · have d1 : (i : Int) ≤ (s.size : Int) := by omega
      have hm : pieces 32 s.data.toList = P ++ pre ((s.data.toList.take i).drop f) (s.data.toList.drop i) := by
        rcases HV.out.2.2.2 with h | h
        · exact h.2.2
        · omega
      have HM := Lib.hid hm
      have hx : (s.extract f i).data.toList = (s.data.toList.take i).drop f := by
        rw [ByteArray.data_extract, Array.toList_extract, List.extract_eq_take_drop, List.drop_take]
      obtain ⟨X, hX⟩ : ∃ X, X = s.extract f i := ⟨_, rfl⟩
      have HX := Lib.hid (show X = ⟨((s.data.toList.take i).drop f).toArray⟩ from by
        rw [hX]
        apply ByteArray.ext
        apply Array.toList_inj.1
        exact hx)
      have hX2 : s.extract f i = X := hX.symm
      have HOW := Lib.hid (And.intro (own_fr HV.out.1.1 ((Fr.refl [] wi).alloc (.cells #[.string X] 9)) (by simp)) (new_list wi [.string X] 9 _ rfl))
      have hmk : (mkB P).length = P.length := by simp [mkB]
      have HLN := Lib.hid (show (mkB P).length ≤ 4294967297 by have h1 := HV.out.2.2.1; have h2 := HS.out; omega)
      clear hmk
      clear hm hx hX hfi hi1
      by_cases hend : i = s.size
      · have e1 : ((i : Int) == (s.size : Int)) = true := by rw [hend]; exact beq_self_eq_true _
        have HEN := Lib.hid hend
        clear hle hend
        go_wp2_with (at_builtin; go_must (refine wpList_app _ rfl _ _ 59 rfl 9 (.string ⟨#[]⟩) 1 16 Tryd.underlying59 infoS9 rfl (by decide) (.slice pv (mkB P).length cv) (mkB P).length (strs (mkB P)) rfl HOW.out.1 ⟨wi.heap.size, 0, none⟩ 1 1 [.string X] rfl rfl HOW.out.2 (by simp [Value.oneCell']) (by have := HLN.out; unfold maxLen; omega) (by have := HLN.out; omega) ?_); intro v1 w4 happ; have HAP := Lib.hid happ; clear happ)
        obtain ⟨q1, q2⟩ := HV.out.1.push (HV.out.2.1.trans ((Fr.refl [] wi).alloc (.cells #[.string X] 9)) (by simp)) HAP.out
        have h3 : mkB P ++ [X] = mkB (P ++ [(s.data.toList.take i).drop f]) := by rw [HX.out]; simp [mkB]
        rw [h3] at q1
        exact ⟨⟨i + 1, i + 1, _, rfl, rfl, by rw [List.length_append, List.length_singleton]; have := HV.out.2.2.1; omega, q1, q2, .inr ⟨by rw [HEN.out], Nat.le_refl _, by rw [HM.out, HEN.out, drop_end (Nat.lt_irrefl _), pre_end]⟩⟩, by have := HEN.out; show s.size + 1 - ((i : Int) + 1).toNat < s.size + 1 - ((i : Nat) : Int).toNat; omega⟩
      · have e1 : ((i : Int) == (s.size : Int)) = false := by rw [beq_eq_false_iff_ne]; omega
        have hlt : i < s.size := by omega
        have d2 : (i : Int) < (s.size : Int) := by omega
        obtain ⟨a, ha⟩ : ∃ a : UInt8, s[i] = a := ⟨_, rfl⟩
        have HL := Lib.hid (show s.data.toList.drop i = a :: s.data.toList.drop (i + 1) by rw [drop_at hlt, ha])
        have HLT := Lib.hid hlt
        clear hle hend
        by_cases hb : a = 32
        · have e2 : ((a.toNat : Int) == 32) = true := by rw [hb]; rfl
          have HBL := Lib.hid hb
          clear hb
          go_wp2_with (at_builtin; go_must (refine wpList_app _ rfl _ _ 59 rfl 9 (.string ⟨#[]⟩) 1 16 Tryd.underlying59 infoS9 rfl (by decide) (.slice pv (mkB P).length cv) (mkB P).length (strs (mkB P)) rfl HOW.out.1 ⟨wi.heap.size, 0, none⟩ 1 1 [.string X] rfl rfl HOW.out.2 (by simp [Value.oneCell']) (by have := HLN.out; unfold maxLen; omega) (by have := HLN.out; omega) ?_); intro v1 w4 happ; have HAP := Lib.hid happ; clear happ)
          obtain ⟨q1, q2⟩ := HV.out.1.push (HV.out.2.1.trans ((Fr.refl [] wi).alloc (.cells #[.string X] 9)) (by simp)) HAP.out
          have h3 : mkB P ++ [X] = mkB (P ++ [(s.data.toList.take i).drop f]) := by rw [HX.out]; simp [mkB]
          rw [h3] at q1
          have h4 : (s.data.toList.take (i + 1)).drop (i + 1) = [] := List.drop_eq_nil_of_le (by rw [List.length_take]; omega)
          exact ⟨⟨i + 1, i + 1, _, rfl, rfl, by rw [List.length_append, List.length_singleton]; have := HV.out.2.2.1; omega, q1, q2, .inl ⟨by have := HLT.out; omega, Nat.le_refl _, by rw [HM.out, HL.out, HBL.out, pre_blank, h4, pre_nil, List.append_assoc]; rfl⟩⟩, by have := HLT.out; show s.size + 1 - ((i : Int) + 1).toNat < s.size + 1 - ((i : Nat) : Int).toNat; omega⟩
        · have e2 : ((a.toNat : Int) == 32) = false := by
            rw [beq_eq_false_iff_ne]
            intro q
            exact hb (UInt8.toNat_inj.1 (by rw [show (32 : UInt8).toNat = 32 from rfl]; omega))
          have HBL := Lib.hid hb
          clear hb
          go_wp2
          have hl : i < s.data.toList.length := by rw [Array.length_toList]; exact HLT.out
          have hai : s.data.toList[i] = a := by
            have := HL.out
            rw [List.drop_eq_getElem_cons hl] at this
            exact (List.cons.inj this).1
          have h4 : (s.data.toList.take (i + 1)).drop f = (s.data.toList.take i).drop f ++ [a] := by
            rw [List.take_succ_eq_append_getElem hl, List.drop_append_of_le_length (by rw [List.length_take]; have := HFI.out.1; omega), hai]
          exact ⟨⟨i + 1, f, P, rfl, rfl, by have := HV.out.2.2.1; omega, HV.out.1, HV.out.2.1, .inl ⟨by have := HLT.out; omega, by have := HFI.out.1; omega, by rw [HM.out, HL.out, pre_other _ _ HBL.out, h4]⟩⟩, by have := HLT.out; show s.size + 1 - ((i : Int) + 1).toNat < s.size + 1 - ((i : Nat) : Int).toNat; omega⟩
    · have d1 : (s.size : Int) < (i : Int) := by omega
      have HF := Lib.hid (show fieldsB s = mkB P from by
        unfold fieldsB mkB
        rcases HV.out.2.2.2 with h | h
        · exact absurd h.1 hle
        · rw [h.2.2])
      clear hle hfi hi1
      go_wp2
      go_ret
      rw [HF.out]
      exact ⟨_, rfl, HV.out.1, HV.out.2.1⟩
end Sc
end Go.Proofs.YtbpgpjibljgiiaaDoor
