/-
  A line of texts that is nil, or zero: every answer.
-/
import Derived.Test.YtobagienhaaceaaLinkI
import Derived.Laws.AppendOwnNone
namespace Go.Proofs.Ytobagienhaaceaa
open Go.RowKit Go.Shelf
set_option linter.unusedVariables false

/-- Nil, or zero. -/
def Nul (w : World) (p : Option Addr) : Prop := p = none ∨ ∃ z, p = some ⟨z, 0, none⟩ ∧ Blk w z #[.slice none 0 0, .int .i64 0, .int .i64 0, .int .i64 0, .int .i64 0, .int .i64 0] 40
theorem Nul.fr {w w' : World} {p : Option Addr} (h : Nul w p) (f : Fr [] w w') : Nul w' p := by
  rcases h with h | ⟨z, h, hb⟩
  · exact .inl h
  · exact .inr ⟨z, h, f.blk hb (by simp)⟩

theorem nlen (w : World) (p : Option Addr) (h : Nul w p) : Calls Try.prog 24 #[.pointer p] w fun e w' => e = .returned (.int .i64 0) ∧ Fr [] w w' := by
  rcases h with rfl | ⟨z, rfl, hb⟩
  · go_enter Try.func24, Try.ntmps24
    go_wp2
    go_ret
    exact ⟨rfl, Fr.refl _ _⟩
  · have c0 := hb.at 0 (v := .slice none 0 0) rfl
    go_enter Try.func24, Try.ntmps24
    go_wp2
    go_ret
    exact ⟨rfl, Fr.refl _ _⟩
theorem nmost (w : World) (p : Option Addr) (h : Nul w p) : Calls Try.prog 25 #[.pointer p] w fun e w' => e = .returned (.int .i64 0) ∧ Fr [] w w' := by
  rcases h with rfl | ⟨z, rfl, hb⟩
  · go_enter Try.func25, Try.ntmps25
    go_wp2
    go_ret
    exact ⟨rfl, Fr.refl _ _⟩
  · have c0 := hb.at 1 (v := .int .i64 0) rfl
    go_enter Try.func25, Try.ntmps25
    go_wp2
    go_ret
    exact ⟨rfl, Fr.refl _ _⟩
theorem nbooks (w : World) (p : Option Addr) (h : Nul w p) : Calls Try.prog 20 #[.pointer p] w fun e w' => e = .returned (.tuple #[.int .i64 0, .int .i64 0, .int .i64 0, .int .i64 0]) ∧ Fr [] w w' := by
  rcases h with rfl | ⟨z, rfl, hb⟩
  · go_enter Try.func20, Try.ntmps20
    go_wp2
    refine bodyPost_ret (v := .tuple #[.int .i64 0, .int .i64 0, .int .i64 0, .int .i64 0]) (by simp [results, Try.results20, go_sem]) rfl ⟨rfl, Fr.refl _ _⟩
  · have c2 := hb.at 2 (v := .int .i64 0) rfl
    have c3 := hb.at 3 (v := .int .i64 0) rfl
    have c4 := hb.at 4 (v := .int .i64 0) rfl
    have c5 := hb.at 5 (v := .int .i64 0) rfl
    go_enter Try.func20, Try.ntmps20
    go_wp2
    go_quiet (fail)
    go_wp2
    refine bodyPost_ret (v := .tuple #[.int .i64 0, .int .i64 0, .int .i64 0, .int .i64 0]) (by simp [results, Try.results20, go_sem]) rfl ⟨rfl, (Fr.refl _ _).drewN _⟩
theorem nput (w : World) (p : Option Addr) (s : Value) (h : Nul w p) : Calls Try.prog 21 #[.pointer p, s] w fun e w' => e = .returned (.bool false) ∧ Fr [] w w' := by
  have HM := Lib.hid (nmost w p h)
  clear h
  go_enter Try.func21, Try.ntmps21
  go_wp2_with (go_at_call 25; refine HM.out.mono ?_; rintro e w1 ⟨rfl, f1⟩; have HF := Lib.hid f1; clear f1)
  go_ret
  exact ⟨rfl, HF.out⟩
theorem nnamed (w : World) (p : Option Addr) (i : Int) (h : Nul w p) : Calls Try.prog 31 #[.pointer p, .int .i64 i] w fun e w' => e = .returned (.tuple #[.int .i64 0, .bool false]) ∧ Fr [] w w' := by
  have HM := Lib.hid (nlen w p h)
  clear h
  go_enter Try.func31, Try.ntmps31
  go_wp2_with (go_at_call 24; refine HM.out.mono ?_; rintro e w1 ⟨rfl, f1⟩; have HF := Lib.hid f1; clear f1)
  go_ret2
  exact ⟨rfl, HF.out⟩
theorem ncut (w : World) (p : Option Addr) (i : Int) (h : Nul w p) : Calls Try.prog 28 #[.pointer p, .int .i64 i] w fun e w' => (∃ s, e = .returned (.tuple #[.string s, .bool false])) ∧ Fr [] w w' := by
  have HM := Lib.hid (nnamed w p i h)
  clear h
  go_enter Try.func28, Try.ntmps28
  go_wp2_with (go_at_call 31; refine HM.out.mono ?_; rintro e w1 ⟨rfl, f1⟩; have HF := Lib.hid f1; clear f1)
  go_ret2
  exact ⟨⟨_, rfl⟩, HF.out⟩
theorem ntake (w : World) (p : Option Addr) (i : Int) (h : Nul w p) : Calls Try.prog 18 #[.pointer p, .int .i64 i] w fun e w' => (∃ s, e = .returned (.tuple #[.string s, .bool false])) ∧ Fr [] w w' := by
  have HM := Lib.hid (ncut w p i h)
  clear h
  go_enter Try.func18, Try.ntmps18
  go_wp2_with (go_at_call 28; refine HM.out.mono ?_; rintro e w1 ⟨⟨s, rfl⟩, f1⟩; have HF := Lib.hid f1; clear f1)
  go_ret2
  exact ⟨⟨_, rfl⟩, HF.out⟩
theorem nlose (w : World) (p : Option Addr) (i : Int) (h : Nul w p) : Calls Try.prog 22 #[.pointer p, .int .i64 i] w fun e w' => e = .returned (.bool false) ∧ Fr [] w w' := by
  have HM := Lib.hid (ncut w p i h)
  clear h
  go_enter Try.func22, Try.ntmps22
  go_wp2_with (go_at_call 28; refine HM.out.mono ?_; rintro e w1 ⟨⟨s, rfl⟩, f1⟩; have HF := Lib.hid f1; clear f1)
  go_ret
  exact ⟨rfl, HF.out⟩
theorem ntwice (w : World) (p : Option Addr) (i : Int) (h : Nul w p) : Calls Try.prog 23 #[.pointer p, .int .i64 i] w fun e w' => e = .returned (.bool false) ∧ Fr [] w w' := by
  have HM := Lib.hid (nnamed w p i h)
  clear h
  go_enter Try.func23, Try.ntmps23
  go_wp2_with (go_at_call 31; refine HM.out.mono ?_; rintro e w1 ⟨rfl, f1⟩; have HF := Lib.hid f1; clear f1)
  go_ret
  exact ⟨rfl, HF.out⟩

theorem info_nil : ∃ i, Try.prog.info? 9 = some i := Option.isSome_iff_exists.1 (by kernel_rfl)
/-- What All answers: nothing is taken. -/
def NoAll (w : World) (e : Ending) (w' : World) : Prop := ∃ k, e = .returned (.func (.func 29) #[] #[.pointer (some ⟨k, 0, none⟩)]) ∧ Blk w' k #[.slice none 0 0] 38 ∧ Fr [] w w'
theorem nall (w : World) (p : Option Addr) (h : Nul w p) : Calls Try.prog 19 #[.pointer p] w (NoAll w) := by
  rcases h with rfl | ⟨z, rfl, hb⟩
  · go_enter Try.func19, Try.ntmps19
    go_wp2
    go_ret
    exact ⟨_, rfl, Blk.new _ _ _, (Fr.refl _ _).alloc _⟩
  · have c0 := hb.at 0 (v := .slice none 0 0) rfl
    have hzl := hb.lt
    have n1 : z ≠ w.heap.size := Nat.ne_of_lt hzl
    have hI := info_nil
    obtain ⟨i9, hi9⟩ := hI
    have HI := Lib.hid hi9
    clear hi9 hb
    go_enter Try.func19, Try.ntmps19
    go_wp2_with fail
    refine region_tail 5 (by kernel_rfl) (by kernel_rfl) ?_
    simp only [List.take_succ_cons, List.take_zero, List.drop_succ_cons, List.drop_zero]
    iterate 5 still_step
    refine wpStill_nil ?_
    go_wp2_with (at_builtin; go_must (refine wpList_append_own_none rfl _ _ 38 rfl 0 9 i9 1 Try.underlying38 HI.out (.slice none 0 0) 0 [] rfl (World.ownsRow_nil _ _ _ _) rfl ?_))
    go_ret
    refine ⟨_, rfl, ?_, ?_⟩
    · exact (Blk.new w #[.slice none 0 0] 38).drew
    · exact ((Fr.refl _ _).alloc _).drew

end Go.Proofs.Ytobagienhaaceaa
