/-
  QueueExact: each step on all three rings, by contracts. Printed by genQx.py.
-/
import Derived.Test.YtiimmndhinoaiaaDoorQxB
namespace Go.Proofs.YtiimmndhinoaiaaDoor
open Go.RowKit Go.Shelf ring
set_option linter.unusedVariables false
set_option linter.unusedSimpArgs false
attribute [local go_sem] Oper.semAt_some
namespace Qu

theorem FineQ.up {k : Nat} {V : List Int} {M : RM} (h : FineQ k V M) : FineQ (k + 1) V M := ⟨h.num, h.rf.1, by have := h.rf.2; omega⟩
theorem FineQ.sub {k : Nat} {V V' : List Int} {M M' : RM} (h : FineQ k V M) (hs : ∀ x ∈ V', x ∈ V) (hr : M'.rf = M.rf) : FineQ (k + 1) V' M' := ⟨fun x hx => h.num x (hs x hx), by rw [hr]; exact h.rf.1, by rw [hr]; have := h.rf.2; omega⟩
theorem map_drop1 (V : List Int) (n : Nat) : (V.map qtx).drop n = (V.drop n).map qtx := List.map_drop.symm
theorem sized_pk (M : RM) (n : Nat) : n ≤ (M.sized n).pk := by simp [RM.sized]; omega
theorem push_three {w : World} {b g c d r k : Nat} {vr : Value} {V : List Int} {M : RM} (h : TQ w b g c d r vr V M) (hF : FineQ k V M) (hk : k ≤ 4398046511104) (sv : Int) (hv : I64 sv) :
    ∃ (V' : List Int) (M' : RM) (er : Int), V'.length ≤ M'.pk ∧ FineQ (k + 1) V' M' ∧ 
      (∀ W vq, RqAt W r vq V M → Calls Tryd.prog 51 #[.pointer (some ⟨r, 0, none⟩), .int .i64 sv] W (QPost W r vq V' M' (.int .i64 er))) ∧
      (∀ W gg Cs f, RgS.RingAt W b gg Cs f (V.map qtx) M → Calls Tryd.prog 52 #[.pointer (some ⟨b, 0, none⟩), .string (qtx sv)] W (RgS.PPost W b gg (V'.map qtx) M' (.int .i64 er))) ∧
      (∀ W dd Cs f, RgP.RingAt W c dd Cs f V M → Calls Tryd.prog 54 #[.pointer (some ⟨c, 0, none⟩), .agg #[.int .i64 sv, .float .f64 0]] W (RgP.PPost W c dd V' M' (.int .i64 er))) := by
  obtain ⟨hl, hm, h1⟩ := h.len
  have hpk := h.pk
  by_cases hf : V.length = M.most
  · refine ⟨V, M.ref, 5, hpk, ⟨hF.num, ?_⟩, fun W vq hr => qpush_full W r vq V M sv hr (by omega) ⟨hF.rf.1, by have := hF.rf.2; omega⟩, fun W gg Cs f hp => RgS.push_full W b gg Cs f _ M _ hp (by rw [List.length_map]; exact hf) ⟨hF.rf.1, by have := hF.rf.2; omega⟩, fun W dd Cs f hq => RgP.push_full W c dd Cs f V M sv hq hf ⟨hF.rf.1, by have := hF.rf.2; omega⟩⟩
    have := hF.rf
    show 0 ≤ M.rf + 1 ∧ M.rf + 1 ≤ ((k + 1 : Nat) : Int)
    omega
  · refine ⟨V ++ [sv], M.sized (V.length + 1), 0, ?_, ⟨?_, hF.rf.1, by have := hF.rf.2; show M.rf ≤ _; omega⟩, fun W vq hr => qpush_ok W r vq V M sv hr (by omega) hm, fun W gg Cs f hp => ?_, fun W dd Cs f hq => RgP.push_any W c dd Cs f V M sv hq (by omega)⟩
    · rw [List.length_append, List.length_singleton]; exact sized_pk _ _
    · intro x hx
      rcases List.mem_append.1 hx with hx | hx
      · exact hF.num x hx
      · simp at hx; subst hx; exact hv
    · have := RgS.push_any W b gg Cs f (V.map qtx) M (qtx sv) hp (by rw [List.length_map]; omega)
      rw [List.length_map] at this
      rw [List.map_append]
      exact this
theorem pop_three {w : World} {b g c d r k : Nat} {vr : Value} {V : List Int} {M : RM} (h : TQ w b g c d r vr V M) (hF : FineQ k V M) (hk : k ≤ 4398046511104)  :
    ∃ (V' : List Int) (M' : RM) (x : Int) (ok : Bool), V'.length ≤ M'.pk ∧ FineQ (k + 1) V' M' ∧ I64 x ∧
      (∀ W vq, RqAt W r vq V M → Calls Tryd.prog 57 #[.pointer (some ⟨r, 0, none⟩), .int .i64 0] W (QPost W r vq V' M' (.tuple #[.int .i64 x, .bool ok]))) ∧
      (∀ W gg Cs f, RgS.RingAt W b gg Cs f (V.map qtx) M → Calls Tryd.prog 55 #[.pointer (some ⟨b, 0, none⟩)] W (RgS.PPost W b gg (V'.map qtx) M' (.tuple #[.string (qtx x), .bool ok]))) ∧
      (∀ W dd Cs f, RgP.RingAt W c dd Cs f V M → Calls Tryd.prog 56 #[.pointer (some ⟨c, 0, none⟩)] W (RgP.PPost W c dd V' M' (.tuple #[pval x, .bool ok]))) := by
  obtain ⟨hl, hm, h1⟩ := h.len
  have hpk := h.pk
  refine ⟨V.drop 1, RgS.dropM M V.length (min 1 V.length), atv V 0, inb V 0, ?_, ?_, atv_I64 hF.num 0, fun W vq hr => ?_, fun W gg Cs f hp => ?_, fun W dd Cs f hq => ?_⟩
  · rw [List.length_drop]
    unfold RgS.dropM
    split
    · omega
    · exact Nat.le_trans (by omega) (sized_pk _ _)
  · refine hF.sub (fun x hx => List.mem_of_mem_drop hx) ?_
    unfold RgS.dropM
    split <;> rfl
  · by_cases hz : V.length = 0
    · have hV : V = [] := List.length_eq_zero_iff.1 hz
      subst hV
      refine (qcut_no W r vq [] M 0 hr (by simp) (by simp)).mono ?_
      rintro e w' ⟨rfl, rfl⟩
      exact ⟨rfl, vq, hr, .inl rfl, Fr.refl _ _⟩
    · have h0 := qcut_ok W r vq V M 0 hr (by omega) (by omega)
      have e1 : V.eraseIdx 0 = V.drop 1 := by cases V with
        | nil => rfl
        | cons a l => rfl
      have e2 : RgS.dropM M V.length (min 1 V.length) = M.sized (V.length - 1) := by
        have : min 1 V.length = 1 := by omega
        unfold RgS.dropM; rw [this, if_neg (by omega)]
      have e3 : (V.getD 0 0) = atv V 0 := by unfold atv; rw [if_pos (by omega)]; rfl
      have e4 : inb V 0 = true := by unfold inb; rw [decide_eq_true]; omega
      rw [e1, e3] at h0
      rw [e2, e4]
      exact h0
  · have h0 := RgS.pop_any W b gg Cs f _ M hp
    rw [map_drop1, List.length_map, atS] at h0
    exact h0
  · have h0 := RgP.pop_any W c dd Cs f V M hq
    rw [atP] at h0
    exact h0
theorem cut_three {w : World} {b g c d r k : Nat} {vr : Value} {V : List Int} {M : RM} (h : TQ w b g c d r vr V M) (hF : FineQ k V M) (hk : k ≤ 4398046511104) (si : Int) :
    ∃ (V' : List Int) (M' : RM) (x : Int) (ok : Bool), V'.length ≤ M'.pk ∧ FineQ (k + 1) V' M' ∧ I64 x ∧
      (∀ W vq, RqAt W r vq V M → Calls Tryd.prog 57 #[.pointer (some ⟨r, 0, none⟩), .int .i64 si] W (QPost W r vq V' M' (.tuple #[.int .i64 x, .bool ok]))) ∧
      (∀ W gg Cs f, RgS.RingAt W b gg Cs f (V.map qtx) M → Calls Tryd.prog 63 #[.pointer (some ⟨b, 0, none⟩), .int .i64 si] W (RgS.PPost W b gg (V'.map qtx) M' (.tuple #[.string (qtx x), .bool ok]))) ∧
      (∀ W dd Cs f, RgP.RingAt W c dd Cs f V M → Calls Tryd.prog 64 #[.pointer (some ⟨c, 0, none⟩), .int .i64 si] W (RgP.PPost W c dd V' M' (.tuple #[pval x, .bool ok]))) := by
  obtain ⟨hl, hm, h1⟩ := h.len
  have hpk := h.pk
  refine ⟨RgP.cutL V si, RgP.cutM M V.length si, atv V si, inb V si, ?_, ?_, atv_I64 hF.num si, fun W vq hr => ?_, fun W gg Cs f hp => ?_, fun W dd Cs f hq => ?_⟩
  · unfold RgP.cutL RgP.cutM
    split
    · rename_i hi
      rw [List.length_eraseIdx_of_lt (by omega)]
      exact sized_pk _ _
    · exact hpk
  · refine hF.sub (fun x hx => ?_) ?_
    · unfold RgP.cutL at hx
      split at hx
      · exact List.mem_of_mem_eraseIdx hx
      · exact hx
    · unfold RgP.cutM
      split <;> rfl
  · by_cases hi : 0 ≤ si ∧ si < V.length
    · obtain ⟨j, rfl⟩ : ∃ j : Nat, si = j := ⟨si.toNat, by omega⟩
      have h0 := qcut_ok W r vq V M j hr (by omega) (by omega)
      have e3 : (V.getD j 0) = atv V j := by unfold atv; rw [if_pos hi]; rfl
      have e4 : inb V j = true := by unfold inb; rw [decide_eq_true]; exact hi
      rw [e3] at h0
      unfold RgP.cutL RgP.cutM
      rw [if_pos hi, if_pos hi, e4, Int.toNat_natCast]
      exact h0
    · unfold RgP.cutL RgP.cutM atv inb
      rw [if_neg hi, if_neg hi, if_neg hi, decide_eq_false hi]
      refine (qcut_no W r vq V M si hr (by omega) hi).mono ?_
      rintro e w' ⟨rfl, rfl⟩
      exact ⟨rfl, vq, hr, .inl rfl, Fr.refl _ _⟩
  · have h0 := RgS.cut_any W b gg Cs f _ M si hp
    rw [atS] at h0
    have e1 : RgS.cutL (V.map qtx) si = (RgP.cutL V si).map qtx := by
      unfold RgS.cutL RgP.cutL
      rw [List.length_map]
      split
      · simp [List.eraseIdx_eq_take_drop_succ, List.map_take, List.map_drop]
      · rfl
    have e2 : RgS.cutM M (V.map qtx).length si = RgP.cutM M V.length si := by rw [List.length_map]; rfl
    rw [e1, e2] at h0
    exact h0
  · have h0 := RgP.cut_any W c dd Cs f V M si hq
    rw [atP] at h0
    exact h0
theorem set_three {w : World} {b g c d r k : Nat} {vr : Value} {V : List Int} {M : RM} (h : TQ w b g c d r vr V M) (hF : FineQ k V M) (hk : k ≤ 4398046511104) (sv si : Int) (hv : I64 sv) :
    ∃ (V' : List Int) (M' : RM) (ok : Bool), V'.length ≤ M'.pk ∧ FineQ (k + 1) V' M' ∧ 
      (∀ W vq, RqAt W r vq V M → Calls Tryd.prog 60 #[.pointer (some ⟨r, 0, none⟩), .int .i64 si, .int .i64 sv] W (QPost W r vq V' M' (.bool ok))) ∧
      (∀ W gg Cs f, RgS.RingAt W b gg Cs f (V.map qtx) M → Calls Tryd.prog 61 #[.pointer (some ⟨b, 0, none⟩), .int .i64 si, .string (qtx sv)] W (RgS.PPost W b gg (V'.map qtx) M' (.bool ok))) ∧
      (∀ W dd Cs f, RgP.RingAt W c dd Cs f V M → Calls Tryd.prog 62 #[.pointer (some ⟨c, 0, none⟩), .int .i64 si, .agg #[.int .i64 sv, .float .f64 0]] W (RgP.PPost W c dd V' M' (.bool ok))) := by
  obtain ⟨hl, hm, h1⟩ := h.len
  have hpk := h.pk
  refine ⟨RgP.setL V si sv, M, RgP.inside V.length si, ?_, ⟨?_, hF.up.rf⟩, fun W vq hr => ?_, fun W gg Cs f hp => ?_, fun W dd Cs f hq => RgP.set_any W c dd Cs f V M si sv hq⟩
  · unfold RgP.setL
    split
    · rw [List.length_set]; exact hpk
    · exact hpk
  · intro x hx
    unfold RgP.setL at hx
    split at hx
    · rcases List.mem_or_eq_of_mem_set hx with hx | hx
      · exact hF.num x hx
      · rw [hx]; exact hv
    · exact hF.num x hx
  · by_cases hi : 0 ≤ si ∧ si < V.length
    · obtain ⟨j, rfl⟩ : ∃ j : Nat, si = j := ⟨si.toNat, by omega⟩
      unfold RgP.setL RgP.inside
      rw [if_pos hi, decide_eq_true hi, Int.toNat_natCast]
      exact qset_ok W r vq V M j sv hr (by omega) (by omega)
    · unfold RgP.setL RgP.inside
      rw [if_neg hi, decide_eq_false hi]
      refine (qset_no W r vq V M si sv hr hi).mono ?_
      rintro e w' ⟨rfl, rfl⟩
      exact ⟨rfl, vq, hr, .inl rfl, Fr.refl _ _⟩
  · have h0 := RgS.set_any W b gg Cs f _ M si (qtx sv) hp
    have e1 : RgS.setL (V.map qtx) si (qtx sv) = (RgP.setL V si sv).map qtx := by
      unfold RgS.setL RgP.setL
      rw [List.length_map]
      split
      · exact List.map_set.symm
      · rfl
    have e2 : RgS.inside (V.map qtx).length si = RgP.inside V.length si := by rw [List.length_map]; rfl
    rw [e1, e2] at h0
    exact h0
theorem drop_three {w : World} {b g c d r k : Nat} {vr : Value} {V : List Int} {M : RM} (h : TQ w b g c d r vr V M) (hF : FineQ k V M) (hk : k ≤ 4398046511104) (si : Int) :
    ∃ (V' : List Int) (M' : RM) (n : Int), V'.length ≤ M'.pk ∧ FineQ (k + 1) V' M' ∧ 
      (∀ W vq, RqAt W r vq V M → Calls Tryd.prog 65 #[.pointer (some ⟨r, 0, none⟩), .int .i64 si] W (QPost W r vq V' M' (.int .i64 n))) ∧
      (∀ W gg Cs f, RgS.RingAt W b gg Cs f (V.map qtx) M → Calls Tryd.prog 66 #[.pointer (some ⟨b, 0, none⟩), .int .i64 si] W (RgS.PPost W b gg (V'.map qtx) M' (.int .i64 n))) ∧
      (∀ W dd Cs f, RgP.RingAt W c dd Cs f V M → Calls Tryd.prog 67 #[.pointer (some ⟨c, 0, none⟩), .int .i64 si] W (RgP.PPost W c dd V' M' (.int .i64 n))) := by
  obtain ⟨hl, hm, h1⟩ := h.len
  have hpk := h.pk
  have hN : RgS.dropN V.length si = drn V.length si := rfl
  have hN2 : RgP.dropN V.length si = drn V.length si := rfl
  refine ⟨V.drop (drn V.length si), RgS.dropM M V.length (drn V.length si), (drn V.length si : Nat), ?_, ?_, fun W vq hr => qdrop_any W r vq V M si hr (by omega) hpk, fun W gg Cs f hp => ?_, fun W dd Cs f hq => RgP.drop_any W c dd Cs f V M si hq⟩
  · rw [List.length_drop]
    unfold RgS.dropM
    split
    · omega
    · exact sized_pk _ _
  · refine hF.sub (fun x hx => List.mem_of_mem_drop hx) ?_
    unfold RgS.dropM
    split <;> rfl
  · have h0 := RgS.drop_any W b gg Cs f _ M si hp
    rw [List.length_map, map_drop1] at h0
    exact h0
theorem mark_three {w : World} {b g c d r k : Nat} {vr : Value} {V : List Int} {M : RM} (h : TQ w b g c d r vr V M) (hF : FineQ k V M) (hk : k ≤ 4398046511104) (sv si : Int) :
    ∃ (V' : List Int) (M' : RM) (n : Int), V'.length ≤ M'.pk ∧ FineQ (k + 1) V' M' ∧ 
      (∀ W vq, RqAt W r vq V M → Calls Tryd.prog 68 #[.pointer (some ⟨r, 0, none⟩), .int .i64 si, .int .i64 sv] W (QPost W r vq V' M' (.int .i64 n))) ∧
      (∀ W gg Cs f, RgS.RingAt W b gg Cs f (V.map qtx) M → Calls Tryd.prog 69 #[.pointer (some ⟨b, 0, none⟩), .int .i64 si, .int .i64 sv] W (RgS.PPost W b gg (V'.map qtx) M' (.int .i64 n))) ∧
      (∀ W dd Cs f, RgP.RingAt W c dd Cs f V M → Calls Tryd.prog 70 #[.pointer (some ⟨c, 0, none⟩), .int .i64 si, .int .i64 sv] W (RgP.PPost W c dd V' M' (.int .i64 n))) := by
  obtain ⟨hl, hm, h1⟩ := h.len
  have hpk := h.pk
  by_cases hb : M.bad si sv
  · refine ⟨V, M, 2, hpk, hF.up, fun W vq hr => ?_, fun W gg Cs f hp => ?_, fun W dd Cs f hq => ?_⟩
    · refine (qmark_bad W r vq V M si sv hr hb).mono ?_
      rintro e w' ⟨rfl, rfl⟩
      exact ⟨rfl, vq, hr, .inl rfl, Fr.refl _ _⟩
    · refine (RgS.mark_bad W b gg Cs f _ M si sv hp hb).mono ?_
      rintro e w' ⟨rfl, rfl⟩
      exact ⟨rfl, gg, Cs, f, hp, .inl rfl, Fr.refl _ _⟩
    · refine (RgP.mark_bad W c dd Cs f V M si sv hq hb).mono ?_
      rintro e w' ⟨rfl, rfl⟩
      exact ⟨rfl, dd, Cs, f, hq, .inl rfl, Fr.refl _ _⟩
  · refine ⟨V, M.mark si sv V.length, 0, hpk, ⟨hF.num, hF.up.rf⟩, fun W vq hr => qmark_ok W r vq V M si sv hr hb, fun W gg Cs f hp => ?_, fun W dd Cs f hq => RgP.mark_ok W c dd Cs f V M si sv hq hb⟩
    have h0 := RgS.mark_ok W b gg Cs f _ M si sv hp hb
    rw [List.length_map] at h0
    exact h0
theorem at_three {w : World} {b g c d r k : Nat} {vr : Value} {V : List Int} {M : RM} (h : TQ w b g c d r vr V M) (hF : FineQ k V M) (hk : k ≤ 4398046511104) (si : Int) :
    ∃ (V' : List Int) (M' : RM) (x : Int) (ok : Bool), V'.length ≤ M'.pk ∧ FineQ (k + 1) V' M' ∧ I64 x ∧
      (∀ W vq, RqAt W r vq V M → Calls Tryd.prog 59 #[.pointer (some ⟨r, 0, none⟩), .int .i64 si] W (QPost W r vq V' M' (.tuple #[.int .i64 x, .bool ok]))) ∧
      (∀ W gg Cs f, RgS.RingAt W b gg Cs f (V.map qtx) M → Calls Tryd.prog 49 #[.pointer (some ⟨b, 0, none⟩), .int .i64 si] W (RgS.PPost W b gg (V'.map qtx) M' (.tuple #[.string (qtx x), .bool ok]))) ∧
      (∀ W dd Cs f, RgP.RingAt W c dd Cs f V M → Calls Tryd.prog 58 #[.pointer (some ⟨c, 0, none⟩), .int .i64 si] W (RgP.PPost W c dd V' M' (.tuple #[pval x, .bool ok]))) := by
  obtain ⟨hl, hm, h1⟩ := h.len
  have hpk := h.pk
  refine ⟨V, M, atv V si, inb V si, hpk, hF.up, atv_I64 hF.num si, fun W vq hr => ?_, fun W gg Cs f hp => ?_, fun W dd Cs f hq => ?_⟩
  · have h0 := qat_any W r vq V M si hr (by omega)
    rw [atR] at h0
    refine h0.mono ?_
    rintro e w' ⟨rfl, rfl⟩
    exact ⟨rfl, vq, hr, .inl rfl, Fr.refl _ _⟩
  · have h0 := RgS.at_any W b gg Cs f _ M si hp
    rw [atS] at h0
    refine h0.mono ?_
    rintro e w' ⟨rfl, m, rfl⟩
    exact ⟨rfl, gg, Cs, f, hp.drewN m, .inl rfl, (Fr.refl _ _).drewN m⟩
  · have h0 := RgP.at_any W c dd Cs f V M si hq
    rw [atP] at h0
    refine h0.mono ?_
    rintro e w' ⟨rfl, f'⟩
    exact ⟨rfl, dd, Cs, f, hq.fr f' (by simp) (by simp), .inl rfl, f'.mono (by simp)⟩
end Qu
end Go.Proofs.YtiimmndhinoaiaaDoor
