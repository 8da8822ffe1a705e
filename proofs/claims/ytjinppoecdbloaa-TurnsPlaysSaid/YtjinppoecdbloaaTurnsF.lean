/-
  Of none and of a zero Turns: Next, next, and the statement TurnsNil.
-/
import Derived.Test.YtjinppoecdbloaaTurnsE
import Derived.Test.YtjinppoecdbloaaRead
namespace Go.Proofs.Ytjinppoecdbloaa
open Go.RowKit Go.Shelf Go.ChangeShapes Go.WideShapes Go.ChangeAt
set_option linter.unusedVariables false
attribute [local go_sem] Oper.semAt_some

/-- Between no two rounds. -/
structure EI (w : World) (pre : List (Fin 1)) (W : World) : Prop where
  b2 : Blk W (w.heap.size + 2) #[.int .i64 0] 3
  b3 : Blk W (w.heap.size + 3) #[.bool false] 4
  fr : Fr [] w W
theorem ei_own (w : World) (k : Nat) (hk : w.heap.size ≤ k) : OwnFrom k (EI w) :=
  fun s A B row h hg hr => ⟨blk_nc hg hr h.b2, blk_nc hg hr h.b3, fr_nc hg hr hk h.fr⟩

set_option maxRecDepth 100000 in
set_option maxHeartbeats 4000000 in
theorem next_empty (w : World) (p : Option Addr) (f : Fn) (x1 x2 : Array Value) (hp : Empty w p) :
    Calls Try.prog 24 #[.pointer p, .func f x1 x2] w fun e w' => e = .returned (.tuple #[.int .i64 (-1), .bool false]) ∧ Fr [] w w' := by
  have hq := neq59
  have HP := Lib.hid hp
  clear hp
  refine (callsIn_wide (n := 9)).1 ?_
  refine callsIn_of_wp_marks Try.func24 rfl trivial ?_ rfl
  simp only [Try.ntmps24, List.size_toArray, List.length_cons, List.length_nil, Nat.reduceAdd, Nat.reduceSub, Array.replicate_succ, Array.replicate_zero, List.push_toArray, List.append_toArray, List.nil_append, List.cons_append]
  gi_wp2_with (refine ⟨trivial, ?_⟩; gi_at_call 23; refine (callsIn_wide.2 (order_any _ _)).mono ?_; rintro e w' ⟨rfl, rfl⟩)
  generalize hw5 : World.alloc _ _ = w5
  have hz : w5.heap.size = w.heap.size + 5 := by rw [← hw5]; simp
  have k2 : Blk w5 (w.heap.size + 2) #[.int .i64 0] 3 := by rw [← hw5]; exact ((Blk.new_at (by simp) _ _).alloc _).alloc _
  have k3 : Blk w5 (w.heap.size + 3) #[.bool false] 4 := by rw [← hw5]; exact (Blk.new_at (by simp) _ _).alloc _
  have k4 : Blk w5 (w.heap.size + 4) #[.pointer p] 23 := by rw [← hw5]; exact Blk.new_at (by simp) _ _
  have kf : Fr [] w w5 := by rw [← hw5]; exact (((((Fr.refl _ w).alloc _).alloc _).alloc _).alloc _).alloc _
  clear hw5
  refine wpIn_rangeFunc_ownG (w0 := w5) rfl (by decide) (gf := 30) (lb := #[.pointer (some ⟨w.heap.size + 4, 0, none⟩)]) rfl trivial (enters_of Try.func30 (by kernel_rfl) rfl)
    (order0_stops (9 - 1) (w.heap.size + 4) p w5 k4 (HP.out.mono kf.below)) KeepsAt.trans (keeps_b (by intro k hk; simp at hk)) (Below.refl _ _) (fun _ => rfl)
    (EI w) (fun _ _ _ => False) (ei_own _ _ (by omega)) (fun c => fun s A B row h hg hr => h)
    ⟨k2, k3, kf⟩
    (fun x => { tmps := #[.pointer p, .func f x1 x2, .pointer (some ⟨w.heap.size, 0, none⟩), .pointer (some ⟨w.heap.size + 1, 0, none⟩), .pointer (some ⟨w.heap.size + 2, 0, none⟩), .pointer (some ⟨w.heap.size + 3, 0, none⟩), .int .i64 (x.val : Nat), .func f x1 x2, .bool true, .pointer p, .func (.func 30) #[] #[.pointer (some ⟨w.heap.size + 4, 0, none⟩)], .int .i64 (x.val : Nat), undef, undef, undef, undef, undef, undef, undef], defers := [] }) ?assign ?body ?done ?stop
  case assign =>
    intro l x W K hK
    obtain rfl : x = 0 := Subsingleton.elim _ _
    gi_wp2
    exact hK
  case body =>
    intro l pre x W hI hlt
    omega
  case done =>
    rintro D ys W hD rfl hI hK
    have c2 := hI.b2.at 0 (v := .int .i64 0) rfl
    have c2f := hI.b2.free 0
    have k3 := hI.b3.other ⟨w.heap.size + 2, 0, none⟩ (.int .i64 (-1)) (by simp)
    have c3 := k3.at 0 (v := .bool false) rfl
    have c3f := k3.free 0
    have hfin : Fr [w.heap.size + 2, w.heap.size + 3] W ((W.setCell ⟨w.heap.size + 2, 0, none⟩ (.int .i64 (-1))).setCell ⟨w.heap.size + 3, 0, none⟩ (.bool false)) :=
      ((Fr.refl _ W).setCell _ _ (.inl (by simp))).setCell _ _ (.inl (by simp))
    have hK2 : ((W.setCell ⟨w.heap.size + 2, 0, none⟩ (.int .i64 (-1))).setCell ⟨w.heap.size + 3, 0, none⟩ (.bool false)).heap[D]? = some (.deferred (some [])) :=
      (hfin.block D (Array.getElem?_eq_some_iff.1 hK).1 (by simp; omega)).trans hK
    have m2 := (hI.b2.set 0 (.int .i64 (-1))).other ⟨w.heap.size + 3, 0, none⟩ (.bool false) (by simp)
    have m3 := k3.set 0 (.bool false)
    have HK := Lib.hid (And.intro hK2 (And.intro hfin hI))
    clear hfin hI hK2 hK
    gi_wp2
    obtain ⟨hK, hfin, hI⟩ := HK.out
    refine ⟨by simp, .inl ⟨_, _, rfl, run_takeDeferred hK, ?_⟩⟩
    have hD2 : w.heap.size + 5 ≤ D := by omega
    have p2 := (m2.putObj (.deferred none) (l := D) (by omega)).at 0 (v := .int .i64 (-1)) (by simp)
    have p3 := (m3.putObj (.deferred none) (l := D) (by omega)).at 0 (v := .bool false) (by simp)
    refine ⟨.tuple #[.int .i64 (-1), .bool false], ?_, ?_⟩
    · simp [results, Try.results24, go_sem, p2, p3]
    · exact ⟨rfl, (hI.fr.trans hfin (by intro k hk; simp at hk; right; omega)).putObj D _ (by omega)⟩
  case stop =>
    intro D c pre W hD hpre hX hK
    exact hX.elim

/-- next, of none. -/
theorem nextq_empty (w : World) (p : Option Addr) (rv : Value) (n c : Nat) (a : Option Addr) (hrv : rv = .slice a n c) (hp : Empty w p) :
    Calls Try.prog 17 #[.pointer p, rv] w fun e w' => e = .returned (.tuple #[.int .i64 (-1), .bool false, .slice none 0 0]) ∧ Fr [] w w' := by
  subst hrv
  have HP := Lib.hid (hp.mono (((Below.refl w.heap.size w).alloc (Nat.le_refl _) (.cells #[.slice a n c] 36)).alloc (by simp) (.cells #[.slice none 0 0] 25)))
  clear hp
  go_enter Try.func17, Try.ntmps17
  go_wp2_with (go_at_call 24; refine (next_empty _ p _ _ _ HP.out).mono ?_; rintro e w' ⟨rfl, hf⟩; have kb : Blk w' (w.heap.size + 1) #[.slice none 0 0] 25 := hf.blk (Blk.new_at (by simp) _ _) (by simp); have cb := kb.at 0 (v := .slice none 0 0) rfl)
  go_quiet (fail)
  go_wp2
  go_ret3
  exact ⟨rfl, ((((Fr.refl [] _).alloc _).alloc _).trans hf (by simp)).drewN _⟩

/-- Waited, of a zero one. -/
theorem waited_zero (w : World) (b : Nat) (n last : Value) (h : Blk w b #[n, last, .slice none 0 0] 27) :
    Calls Try.prog 21 #[.pointer (some ⟨b, 0, none⟩)] w fun e w' => (∃ a c, e = .returned (.slice a 0 c)) ∧ Fr [] w w' := by
  have c2 := h.at 2 (v := .slice none 0 0) rfl
  have hl := h.lt
  have hm := World.ownsRow_made (base := 0) (e := 3) (size := 1) w #[] 0 (Nat.zero_le _) (by decide) rfl
  go_enter Try.func21, Try.ntmps21
  go_wp2
  go_ret
  exact ⟨⟨_, _, rfl⟩, (Fr.refl _ _).alloc _⟩

/-- What a zero one is. -/
def Zero (w : World) (p : Option Addr) : Prop := p = none ∨ ∃ b last, p = some ⟨b, 0, none⟩ ∧ Blk w b #[.int .i64 0, last, .slice none 0 0] 27
theorem Zero.fr {w w' : World} {p : Option Addr} (h : Zero w p) (hf : Fr [] w w') : Zero w' p := by
  rcases h with h | ⟨b, l, h, hb⟩
  · exact .inl h
  · exact .inr ⟨b, l, h, hf.blk hb (by simp)⟩
theorem Zero.empty {w : World} {p : Option Addr} (h : Zero w p) : Empty w p := by
  rcases h with h | ⟨b, l, h, hb⟩
  · exact .inl h
  · exact .inr ⟨b, l, _, h, hb⟩
theorem last_z (w : World) (p : Option Addr) (h : Zero w p) : Calls Try.prog 14 #[.pointer p] w fun e w' => e = .returned (.int .i64 (-1)) ∧ w = w' := by
  rcases h with rfl | ⟨b, l, rfl, hb⟩
  · exact last_nil w
  · exact last_zero w b l _ hb
theorem len_z (w : World) (p : Option Addr) (h : Zero w p) : Calls Try.prog 13 #[.pointer p] w fun e w' => e = .returned (.int .i64 0) ∧ w = w' := by
  rcases h with rfl | ⟨b, l, rfl, hb⟩
  · exact len_nil w
  · exact len_some w b _ l _ hb
theorem waited_z (w : World) (p : Option Addr) (h : Zero w p) : Calls Try.prog 21 #[.pointer p] w fun e w' => (∃ a c, e = .returned (.slice a 0 c)) ∧ Fr [] w w' := by
  rcases h with rfl | ⟨b, l, rfl, hb⟩
  · exact (waited_nil w).mono fun e w' ⟨h, hw⟩ => ⟨⟨_, _, h⟩, hw ▸ Fr.refl _ _⟩
  · exact waited_zero w b _ l hb

/-- nothing: it answers as a nil one. -/
theorem nothing_any (w : World) (p : Option Addr) (hp : Zero w p) :
    Calls Try.prog 10 #[.pointer p] w fun e w' => e = .returned (.bool true) ∧ Fr [] w w' := by
  have HP := Lib.hid hp
  clear hp
  go_enter Try.func10, Try.ntmps10
  go_wp2_with (first
    | (go_at_call 17; refine (nextq_empty _ p _ _ _ _ rfl (HP.out.fr ((Fr.refl _ _).alloc _)).empty).mono ?_; rintro e w1 ⟨rfl, f1⟩; have F1 := ((Fr.refl [] w).alloc (.cells #[.bool true, .bool true] 4)).trans f1 (by simp); clear f1)
    | (go_at_call 14; refine (last_z _ p (HP.out.fr F1)).mono ?_; rintro e w2 ⟨rfl, rfl⟩)
    | (go_at_call 13; refine (len_z _ p (HP.out.fr F1)).mono ?_; rintro e w2 ⟨rfl, rfl⟩)
    | (go_at_call 21; refine (waited_z _ p (HP.out.fr F1)).mono ?_; rintro e w2 ⟨⟨a2, c2, rfl⟩, f2⟩; have F2 := F1.trans f2 (by simp); clear f2)
    | (go_at_call 16; refine (orderq_empty _ p 0 (HP.out.fr F2).empty).mono ?_; rintro e w3 ⟨v3, rfl, o3, n3, f3⟩; (have F3 := F2.trans f3 (by simp)); clear f3; obtain ⟨rfl, _⟩ | ⟨g, c3, cur, rfl, _⟩ := o3.2))
  all_goals
    go_ret
    exact ⟨rfl, F3⟩

theorem own : ownKnob Try.prog.godebug = none := by kernel_rfl
theorem laidOut : laidOutB Try.prog = true := by kernel_rfl

namespace turnsNil
theorem walk (w : World) : Calls Try.prog 7 #[] w fun e w' => e = .returned (.bool true) ∧ Fr [] w w' := by
  go_enter Try.func7, Try.ntmps7
  go_wp2_with fail
  refine (nothing_any _ none (.inl rfl)).mono ?_
  rintro e w1 ⟨rfl, f1⟩
  go_wp2_with fail
  refine (nothing_any _ _ (.inr ⟨_, _, rfl, Blk.new _ _ _⟩)).mono ?_
  rintro e w2 ⟨rfl, f2⟩
  go_wp2
  go_ret
  exact ⟨rfl, (f1.alloc _).trans f2 (by simp)⟩

set_option maxRecDepth 100000 in
theorem lifted (os : Os) (started : os.Started) (H : Type) (enc : TypeId × Value → H) :
    ReturnsInHanded {} Try.checked os 7 .any (Rows.turnsNilSpec.pre6 enc Try.prog Try.f7 Rows.turnsNilRow.domain false) (Rows.turnsNilSpec.post enc Try.prog Try.f7 false true false false) := by
  refine returnsInHanded_of_change (C := Try.checked) own started (by kernel_rfl) Try.func7
    (ChangeSpec.witness6 (enc := enc) (C := Try.checked) false ⟨#[], #[], []⟩ 8 (by kernel_rfl) (by kernel_rfl) (by kernel_rfl) (by kernel_rfl)) ?_
  intro W base args ds gs before hval0 hW hcnd _
  have hW' := hW
  obtain ⟨p, q, hA, hV, rfl, hfz, hnd⟩ := hW
  rw [Try.params7] at hA
  obtain ⟨hargs, rfl, rfl⟩ := trodAll_none hA
  obtain ⟨rfl, rfl⟩ := trodVars_none hV
  have : args = #[] := by simpa using hargs
  subst this
  refine (walk W).mono fun e W' ⟨he, hg⟩ => ?_
  exact ⟨_, he, law_post (tb := 4) laidOut (by rw [Try.params7]; intro t ht; simp at ht) rfl Try.underlying4 rfl hW' rfl hg⟩
theorem over : Rows.turnsNilRow.holds Try.pinned (OpenSpec.ofChange Rows.turnsNilSpec) :=
  OpenClaim.holds_of_wide 7 Try.f7 rfl rfl rfl rfl rfl rfl rfl ⟨rfl, rfl, rfl, rfl, rfl⟩ rfl rfl rfl rfl rfl (by kernel_rfl) Try.func7 (by kernel_rfl)
    (of_decide_eq_true (by kernel_rfl)) (by unfold Func.isWrapper; first | (rw [if_pos (by decide +kernel)]; kernel_rfl) | (rw [if_neg (by decide +kernel)]; exact ⟨rfl, rfl⟩))
    (fun os started H enc _ => lifted os started H enc)
/-- The statement TurnsNil. -/
theorem proved : Rows.TurnsNilSaid := over
#print axioms proved
end turnsNil
end Go.Proofs.Ytjinppoecdbloaa
