/-
  A sender: New, again, fresh, Next, by contracts.
-/
import Derived.Test.YtehdhdocalbfpaaSendA
import Derived.Laws.OwnMore
namespace Go.Proofs.Ytehdhdocalbfpaa
open Go.RowKit ring
set_option linter.unusedVariables false
attribute [local go_sem ↓] Go.wp_at_zero Go.wp_at_succ

/-- The sender that was over S stands so now. -/
def SndTo (w : World) (S : List Nat) (w' : World) (sb win tmo most acked : Nat) (L : List Ev) (A : List Int) : Prop :=
  ∃ S', Snd w' S' sb win tmo most acked L A ∧ (∀ b ∈ S', b ∈ S ∨ w.heap.size ≤ b) ∧ Fr S w w'
theorem SndTo.same {w w' : World} {S : List Nat} {sb win tmo most acked : Nat} {L : List Ev} {A : List Int} (h : Snd w S sb win tmo most acked L A) (f : Fr [] w w') : SndTo w S w' sb win tmo most acked L A :=
  ⟨S, h.fr0 f, fun b hb => .inl hb, f.mono (by simp)⟩
theorem SndTo.pre {w0 w w' : World} {S : List Nat} {sb win tmo most acked : Nat} {L : List Ev} {A : List Int} (f : Fr [] w0 w) (h : SndTo w S w' sb win tmo most acked L A) : SndTo w0 S w' sb win tmo most acked L A := by
  obtain ⟨S', h1, h2, h3⟩ := h
  exact ⟨S', h1, fun b hb => (h2 b hb).imp id (fun h => Nat.le_trans f.size h), (f.mono (T := S) (by simp)).trans h3 (fun b hb => .inl hb)⟩
theorem SndTo.then0 {w w1 w' : World} {S : List Nat} {sb win tmo most acked : Nat} {L : List Ev} {A : List Int} (h : SndTo w S w1 sb win tmo most acked L A) (f : Fr [] w1 w') : SndTo w S w' sb win tmo most acked L A := by
  obtain ⟨S', h1, h2, h3⟩ := h
  exact ⟨S', h1.fr0 f, h2, h3.trans f (by simp)⟩
section
variable (w : World) (S : List Nat) (sb win tmo most acked : Nat) (L : List Ev) (A : List Int)
theorem again_next (now : Int) (h : Snd w S sb win tmo most acked L A) (h0 : 0 < A.length) : Calls Try.prog 77 #[.pointer (some ⟨sb, 0, none⟩), .int .u32 now] w fun e w' => e = .returned (.int .i64 0) ∧ SndTo w S w' sb win tmo most acked L (A.set 0 now) := by
  obtain ⟨rb, g, Cs, f, atv, hS, hb, hr, ho⟩ := h.ex
  obtain ⟨o, cap, rfl⟩ : ∃ o cap, atv = .slice (some ⟨o, 0, none⟩) A.length cap := by
    obtain ⟨o, cap, hh⟩ := own_succ (k := A.length - 1) (by rw [show A.length - 1 + 1 = A.length by omega]; exact ho)
    exact ⟨o, cap, by rw [hh, show A.length - 1 + 1 = A.length by omega]⟩
  have c4 := hb.at 4 (v := .slice (some ⟨o, 0, none⟩) A.length cap) rfl
  obtain ⟨a0, ha0⟩ : ∃ a0, A.getD 0 0 = a0 := ⟨_, rfl⟩
  have ca : w.cell? ⟨o, 0, none⟩ = some (.int .u32 a0) := by
    have := ho.cells (g := o) rfl 0 (.int .u32 a0) (by simp [u32s, ← ha0, List.getD_eq_getElem?_getD, h0])
    rw [Addr.add_lit] at this
    exact this
  have cf := ho.frozenAt 0
  have i0 : (0 : Int) < (A.length : Int) := by omega
  have hfin : SndTo w S (w.setCell ⟨o, 0, none⟩ (.int .u32 now)) sb win tmo most acked L (A.set 0 now) := by
    have fr : Fr [o] w (w.setCell ⟨o, 0, none⟩ (.int .u32 now)) := (Fr.refl _ w).setCell _ _ (.inl (by simp))
    have n1 : sb ≠ o := own_ne ho rfl hb (by decide)
    obtain ⟨pp, rr, hrb⟩ := hr.hd
    have n2 : rb ≠ o := own_ne ho rfl hrb (by decide)
    have n3 : g ≠ o := own_ne ho rfl hr.pl (by decide)
    have ho2 := (ho.stored 0 (.int .u32 now)).1
    refine ⟨S, ⟨⟨rb, g, Cs, f, .slice (some ⟨o, 0, none⟩) A.length cap, hS, fr.blk hb (by simpa using n1), hr.fr fr (by simpa using n2) (by simpa using n3), ?_⟩, by rw [List.length_set]; exact h.al, by rw [List.length_set]; exact h.aw, h.lw, h.lt, h.lm, h.la⟩, fun b hb => .inl hb, fr.mono (fun x hx => .inl (by simp at hx; subst hx; simp [hS, Value.ownBlock]))⟩
    rw [List.length_set]
    have : u32s (A.set 0 now) = (u32s A).set 0 (.int .u32 now) := by simp [u32s, List.map_set]
    rw [this]
    exact ho2
  have HF := Lib.hid hfin
  clear h hb hr ho hS hfin ha0
  go_enter Try.func77, Try.ntmps77
  go_wp2
  go_ret
  exact ⟨rfl, HF.out⟩
theorem info51 : (Try.prog.info? 51).map (fun i => (i.zero, i.size, i.bytes)) = some (some (.int .u32 0), 1, 4) := by kernel_rfl
set_option maxRecDepth 100000 in
theorem fresh_next (now : Int) (h : Snd w S sb win tmo most acked L A) (h1 : A.length < L.length) (h2 : A.length < win) : Calls Try.prog 78 #[.pointer (some ⟨sb, 0, none⟩), .int .u32 now] w fun e w' => e = .returned (.int .i64 A.length) ∧ SndTo w S w' sb win tmo most acked L (A ++ [now]) := by
  obtain ⟨rb, g, Cs, f, atv, hS, hb, hr, ho⟩ := h.ex
  have c4 := hb.at 4 (v := atv) rfl
  have f4 := hb.free 4
  have hlw := h.lw
  have hlt := hb.lt
  have hcz : sb ≠ w.heap.size := by omega
  have HN := Lib.hid (fun (v1 : Value) (w1 : World) (happ : Appended (w.alloc (.cells #[.int .u32 now] 51)) 51 1 atv (A.length + 1) (u32s A ++ [.int .u32 now]) v1 w1) => show (w1.cell? ⟨sb, 4, none⟩ = some atv ∧ w1.frozen? ⟨sb, 4, none⟩ = false ∧ sb ≠ w1.heap.size) ∧ SndTo w S (w1.setCell ⟨sb, 4, none⟩ v1) sb win tmo most acked L (A ++ [now]) by
    have fa := (Fr.refl [] w).alloc (.cells #[.int .u32 now] 51)
    have hb1 := fa.blk hb (by simp)
    have hr1 := hr.fr fa (by simp) (by simp)
    have ho1 := own_fr ho fa (by simp)
    have f1 := happ.fr
    obtain ⟨pp, rr, hrb⟩ := hr1.hd
    have hb2 := f1.blk hb1 (own_notin ho1 hb1 (by decide))
    have hr2 := hr1.fr f1 (own_notin ho1 hrb (by decide)) (own_notin ho1 hr1.pl (by decide))
    refine ⟨⟨hb2.at 4 rfl, hb2.free 4, by have := hb2.lt; omega⟩, ?_⟩
    have hv : ∀ k ∈ v1.ownBlock.toList, k ∈ S ∨ w.heap.size ≤ k := by
      intro k hk
      rcases happ.place with hp | hp
      · left; rw [hS, ← hp]; simp only [List.mem_append]; exact .inr hk
      · rw [hp] at hk; simp at hk; right; rw [hk]; simp
    have n1 : sb ∉ v1.ownBlock.toList := own_notin happ.own hb2 (by decide)
    have f2 : Fr [sb] w1 (w1.setCell ⟨sb, 4, none⟩ v1) := (Fr.refl _ w1).setCell _ _ (.inl (by simp))
    have ho2 : World.ownsRow (w1.setCell ⟨sb, 4, none⟩ v1) 0 51 1 v1 (A.length + 1) (u32s A ++ [.int .u32 now]) := own_fr happ.own f2 (fun k hk hm => n1 (by simp at hm; subst hm; simp [hk]))
    have hrr : rb ≠ sb := by rintro rfl; obtain ⟨p3, r3, h3⟩ := hr.hd; exact absurd (h3.inj hb).2 (by decide)
    have hgr : g ≠ sb := by rintro rfl; exact absurd (hr.pl.inj hb).2 (by decide)
    refine ⟨[sb, rb, g] ++ v1.ownBlock.toList, ⟨⟨rb, g, Cs, f, v1, rfl, hb2.set 4 v1, hr2.fr f2 (by simpa using hrr) (by simpa using hgr), ?_⟩, by rw [List.length_append]; simp; omega, by rw [List.length_append]; simp; omega, h.lw, h.lt, h.lm, h.la⟩, ?_, ?_⟩
    · have : u32s (A ++ [now]) = u32s A ++ [.int .u32 now] := by simp [u32s]
      rw [this, List.length_append]
      exact ho2
    · intro k hk
      rw [List.mem_append] at hk
      rcases hk with hk | hk
      · left; rw [hS, List.mem_append]; exact .inl hk
      · exact hv k hk
    · refine (((fa.mono (T := S) (by simp)).trans f1 (fun k hk => .inl ?_)).setCell _ _ (.inl ?_))
      · rw [hS, List.mem_append]; exact .inr hk
      · rw [hS]; simp)
  have HO := Lib.hid (own_fr ho ((Fr.refl [] w).alloc (.cells #[.int .u32 now] 51)) (by simp))
  have hcz2 : w.heap.size ≠ sb := Ne.symm hcz
  have c4' : (w.alloc (.cells #[.int .u32 now] 51)).cell? ⟨sb, 4, none⟩ = some atv := by have := ((Fr.refl [] w).alloc (.cells #[.int .u32 now] 51)).blk hb (by simp); exact this.at 4 rfl
  clear h hb hr ho hS
  go_enter Try.func78, Try.ntmps78
  go_wp2_with (at_builtin; go_must (refine wpList_app _ rfl _ _ 43 rfl 51 (.int .u32 0) 1 4 Try.underlying43 info51 rfl (by decide) atv A.length (u32s A) rfl HO.out ⟨w.heap.size, 0, none⟩ 1 1 [.int .u32 now] rfl rfl (new_one w _ _ _ rfl) (by simp [Value.oneCell']) (by unfold maxLen; omega) (by omega) ?_); intro v1 w3 happ; obtain ⟨g1, cp1, rfl⟩ := own_succ happ.own; obtain ⟨⟨e1, e2, e3⟩, e5⟩ := HN.out _ _ happ; have E5 := Lib.hid e5; clear e5 happ)
  go_ret
  exact ⟨rfl, E5.out⟩
end

end Go.Proofs.Ytehdhdocalbfpaa
