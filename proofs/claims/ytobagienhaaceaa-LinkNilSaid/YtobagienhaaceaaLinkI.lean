/-
  works; wild, of any number; how the two lines and the times lie.
-/
import Derived.Test.YtobagienhaaceaaLinkH
namespace Go.Proofs.Ytobagienhaaceaa
open Go.RowKit Go.Shelf
set_option linter.unusedVariables false

theorem wild_any (w : World) (b : Nat) (v vt : Value) (L ts : List Int) (most N : Nat) (n : Int) (h : LineAt w b v L most) (hm : L.length ≤ most) (h64 : most ≤ 64) (ht : w.ownsRow 0 3 1 vt ts.length (ints ts)) (hT : ts.length ≤ 1048576)
    (hM : May L ts N) (hN : N ≤ 1048576) (ha : Apart w b v vt) (hn : 0 ≤ n ∧ n ≤ 255) :
    Calls Try.prog 9 #[.pointer (some ⟨b, 0, none⟩), vt, .int .i64 n] w (WildPost w b v vt most ts.length N) := by
  have hr : n / 2 % 4 = 0 ∨ n / 2 % 4 = 1 ∨ n / 2 % 4 = 2 ∨ n / 2 % 4 = 3 := by omega
  by_cases h0 : L.length = 0
  · obtain rfl : L = [] := List.eq_nil_of_length_eq_zero h0
    rcases hr with hr | hr | hr | hr
    · exact wild_take0 w b v vt ts most N n h ht hM hn (.inl hr)
    · exact wild_take0 w b v vt ts most N n h ht hM hn (.inr hr)
    · exact wild_twice0 w b v vt ts most N n h ht hM hn hr
    · exact wild_lose0 w b v vt ts most N n h ht hM hn hr
  · rcases hr with hr | hr | hr | hr
    · exact wild_take w b v vt L ts most N n h (by omega) hm h64 ht hT hM hN ha hn (.inl hr)
    · exact wild_take w b v vt L ts most N n h (by omega) hm h64 ht hT hM hN ha hn (.inr hr)
    · by_cases hf : L.length = most
      · exact wild_full w b v vt L ts most N n h (by omega) hf h64 ht hM hn hr
      · exact wild_twice w b v vt L ts most N n h (by omega) (by omega) h64 ht hT hM hN ha hn hr
    · exact wild_lose w b v vt L ts most N n h (by omega) hm h64 ht hM ha hn hr

theorem works_any (w : World) : Calls Try.prog 6 #[] w fun e w' => e = .returned (.bool true) ∧ Fr [] w w' := by
  have h1 := new_ok w 1 (by omega) (by omega)
  rw [show ((1 : Nat) : Int) = 1 from rfl] at h1
  have H1 := Lib.hid h1
  clear h1
  go_enter Try.func6, Try.ntmps6
  go_wp2_with fail
  (with_reducible refine H1.out.mono ?_)
  rintro e w1 ⟨rfl, l1, f1⟩
  have H2 := Lib.hid (put_ok w1 w.heap.size _ [] 1 7 l1 (by omega) (by simp))
  have F1 := Lib.hid f1
  clear l1 f1
  go_wp2_with fail
  (with_reducible refine H2.out.mono ?_)
  rintro e w2 ⟨rfl, v2, l2, m2, f2⟩
  have F2 := Lib.hid (And.intro (F1.out.trans f2 (by intro x hx; simp [Value.ownBlock] at hx; omega)) m2)
  have H3 := Lib.hid (put_full w2 w.heap.size v2 [7] 1 8 l2 (by omega) (by simp))
  have F2s := f2.size
  have F1s := F1.out.size
  have HS := Lib.hid (And.intro F1s F2s)
  clear l2 m2 f2 F2s F1s
  go_wp2_with fail
  (with_reducible refine H3.out.mono ?_)
  rintro e w3 ⟨rfl, l3, f3⟩
  have F3 := Lib.hid (F2.out.1.trans f3 (by simp))
  have H4 := Lib.hid (take_ok w3 w.heap.size v2 [7] 1 5 l3 (by simp) (by simp))
  have hp : place 5 ([7] : List Int).length = 0 := by decide
  rw [hp] at H4
  clear l3 f3 hp
  go_wp2_with fail
  (with_reducible refine H4.out.mono ?_)
  rintro e w4 ⟨rfl, v4, l4, o4, f4⟩
  have F4 := Lib.hid (F3.out.trans f4 (by
    intro x hx
    rcases List.mem_cons.1 hx with h | h
    · exact .inr (by omega)
    · rcases F2.out.2 with h2 | ⟨g, h2, h3⟩
      · rw [h2] at h; simp [Value.ownBlock] at h
      · rw [h2] at h; simp at h; exact .inr (by have := HS.out.1; omega)))
  have H5 := Lib.hid (len_zero w4 w.heap.size v4 1 l4)
  clear l4 o4 f4
  go_wp2_with fail
  (with_reducible refine H5.out.mono ?_)
  rintro e w5 ⟨rfl, rfl⟩
  go_wp2
  go_ret
  exact ⟨rfl, F4.out⟩

/-- Nothing of the one is in the other. -/
def Dis (A B : List Nat) : Prop := ∀ x, x ∈ A → x ∉ B
theorem Dis.symm {A B : List Nat} (h : Dis A B) : Dis B A := fun x hb ha => h x ha hb
def ownL (b : Nat) (v : Value) : List Nat := b :: v.ownBlock.toList
theorem Dis.moved {w : World} {b : Nat} {v v' : Value} {X : List Nat} (h : Dis (ownL b v) X) (hm : Moved w v v') (hX : ∀ x, x ∈ X → x < w.heap.size) : Dis (ownL b v') X := by
  intro x hx hxX
  rcases List.mem_cons.1 hx with h1 | h1
  · subst h1; exact h x (by simp [ownL]) hxX
  · rcases hm with h2 | ⟨g, h2, h3⟩
    · exact h x (List.mem_cons_of_mem _ (by rwa [h2] at h1)) hxX
    · rw [h2] at h1; simp at h1; have := hX x hxX; omega
theorem moved_ge {w0 w : World} {b : Nat} {v v' : Value} (h : ∀ x, x ∈ ownL b v → w0.heap.size ≤ x) (hs : w0.heap.size ≤ w.heap.size) (hm : Moved w v v') : ∀ x, x ∈ ownL b v' → w0.heap.size ≤ x := by
  intro x hx
  rcases List.mem_cons.1 hx with h1 | h1
  · subst h1; exact h x (by simp [ownL])
  · rcases hm with h2 | ⟨g, h2, h3⟩
    · exact h x (List.mem_cons_of_mem _ (by rwa [h2] at h1))
    · rw [h2] at h1; simp at h1; omega
theorem LineAt.ownlt {W : World} {b : Nat} {v : Value} {L : List Int} {most : Nat} (h : LineAt W b v L most) : ∀ x, x ∈ ownL b v → x < W.heap.size := by
  intro x hx
  rcases List.mem_cons.1 hx with h1 | h1
  · subst h1; exact h.lt
  · exact own_lt h.2 (by simpa using h1)
theorem LineAt.dis {S : List Nat} {W W' : World} {b : Nat} {v : Value} {L : List Int} {most : Nat} (h : LineAt W b v L most) (f : Fr S W W') (d : Dis (ownL b v) S) : LineAt W' b v L most :=
  h.fr f (d b (by simp [ownL])) (fun g hg => d g (List.mem_cons_of_mem _ (by simp [hg])))

/-- The two lines and the times. -/
structure LO (w W : World) (bl bm most : Nat) (vl vm vt : Value) (Ll Lm ts : List Int) : Prop where
  l : LineAt W bl vl Ll most
  ll : Ll.length ≤ most
  m : LineAt W bm vm Lm most
  ml : Lm.length ≤ most
  t : W.ownsRow 0 3 1 vt ts.length (ints ts)
  fr : Fr [] w W
  lm : Dis (ownL bl vl) (ownL bm vm)
  lt : Dis (ownL bl vl) vt.ownBlock.toList
  mt : Dis (ownL bm vm) vt.ownBlock.toList
  gl : ∀ x, x ∈ ownL bl vl → w.heap.size ≤ x
  gm : ∀ x, x ∈ ownL bm vm → w.heap.size ≤ x
  gt : ∀ x, x ∈ vt.ownBlock.toList → w.heap.size ≤ x
theorem LO.tlt {w W : World} {bl bm most : Nat} {vl vm vt : Value} {Ll Lm ts : List Int} (h : LO w W bl bm most vl vm vt Ll Lm ts) : ∀ x, x ∈ vt.ownBlock.toList → x < W.heap.size :=
  fun x hx => own_lt h.t (by simpa using hx)
theorem own_dis {S : List Nat} {W W' : World} {v : Value} {n : Nat} {xs : List Value} (h : W.ownsRow 0 3 1 v n xs) (f : Fr S W W') (d : Dis v.ownBlock.toList S) : W'.ownsRow 0 3 1 v n xs :=
  own_fr h f (fun g hg => d g (by simp [hg]))

/-- The first line has changed. -/
theorem LO.left {w W W' : World} {bl bm most : Nat} {vl vm vt vl' : Value} {Ll Lm ts Ll' : List Int} (h : LO w W bl bm most vl vm vt Ll Lm ts) (hl : LineAt W' bl vl' Ll' most) (hll : Ll'.length ≤ most) (hm : Moved W vl vl') (f : Fr (ownL bl vl) W W') :
    LO w W' bl bm most vl' vm vt Ll' Lm ts :=
  ⟨hl, hll, h.m.dis f h.lm.symm, h.ml, own_dis h.t f h.lt.symm, h.fr.trans f (fun x hx => .inr (h.gl x hx)), h.lm.moved hm h.m.ownlt, h.lt.moved hm h.tlt, h.mt, moved_ge h.gl h.fr.size hm, h.gm, h.gt⟩
/-- The second line has changed. -/
theorem LO.right {w W W' : World} {bl bm most : Nat} {vl vm vt vm' : Value} {Ll Lm ts Lm' : List Int} (h : LO w W bl bm most vl vm vt Ll Lm ts) (hl : LineAt W' bm vm' Lm' most) (hll : Lm'.length ≤ most) (hm : Moved W vm vm') (f : Fr (ownL bm vm) W W') :
    LO w W' bl bm most vl vm' vt Ll Lm' ts :=
  ⟨h.l.dis f h.lm, h.ll, hl, hll, own_dis h.t f h.mt.symm, h.fr.trans f (fun x hx => .inr (h.gm x hx)), (h.lm.symm.moved hm h.l.ownlt).symm, h.lt, h.mt.moved hm h.tlt, h.gl, moved_ge h.gm h.fr.size hm, h.gt⟩
/-- The second line has changed, the times with it. -/
theorem LO.both {w W W' : World} {bl bm most : Nat} {vl vm vt vm' : Value} {Ll Lm ts Lm' ts' : List Int} (h : LO w W bl bm most vl vm vt Ll Lm ts) (hl : LineAt W' bm vm' Lm' most) (hll : Lm'.length ≤ most) (hm : Moved W vm vm') (f : Fr (bm :: (vm.ownBlock.toList ++ vt.ownBlock.toList)) W W') (ht : W'.ownsRow 0 3 1 vt ts'.length (ints ts')) :
    LO w W' bl bm most vl vm' vt Ll Lm' ts' := by
  have hd : Dis (ownL bl vl) (bm :: (vm.ownBlock.toList ++ vt.ownBlock.toList)) := by
    intro x hx hx2
    rcases List.mem_cons.1 hx2 with h1 | h1
    · exact h.lm x hx (by simp [ownL, h1])
    · rcases List.mem_append.1 h1 with h1 | h1
      · exact h.lm x hx (List.mem_cons_of_mem _ h1)
      · exact h.lt x hx h1
  exact ⟨h.l.dis f hd, h.ll, hl, hll, ht, h.fr.trans f (fun x hx => .inr (by
    rcases List.mem_cons.1 hx with h1 | h1
    · exact h.gm x (by simp [ownL, h1])
    · rcases List.mem_append.1 h1 with h1 | h1
      · exact h.gm x (List.mem_cons_of_mem _ h1)
      · exact h.gt x h1)), (h.lm.symm.moved hm h.l.ownlt).symm, h.lt, h.mt.moved hm h.tlt, h.gl, moved_ge h.gm h.fr.size hm, h.gt⟩
/-- The times have grown. -/
theorem LO.times {w W W' : World} {bl bm most : Nat} {vl vm vt vt' : Value} {Ll Lm ts ts' : List Int} (h : LO w W bl bm most vl vm vt Ll Lm ts) (ht : W'.ownsRow 0 3 1 vt' ts'.length (ints ts')) (hp : vt'.ownBlock = vt.ownBlock ∨ ∃ g, vt'.ownBlock = some g ∧ W.heap.size ≤ g) (f : Fr vt.ownBlock.toList W W') :
    LO w W' bl bm most vl vm vt' Ll Lm ts' := by
  have key : ∀ A : List Nat, Dis A vt.ownBlock.toList → (∀ x, x ∈ A → x < W.heap.size) → Dis A vt'.ownBlock.toList := by
    intro A hA hlt x hx hx2
    rcases hp with h1 | ⟨g, h1, h2⟩
    · rw [h1] at hx2; exact hA x hx hx2
    · rw [h1] at hx2; simp at hx2; have := hlt x hx; omega
  exact ⟨h.l.dis f h.lt, h.ll, h.m.dis f h.mt, h.ml, ht, h.fr.trans f (fun x hx => .inr (h.gt x hx)), h.lm, key _ h.lt h.l.ownlt, key _ h.mt h.m.ownlt, h.gl, h.gm, fun x hx => by
    rcases hp with h1 | ⟨g, h1, h2⟩
    · rw [h1] at hx; exact h.gt x hx
    · rw [h1] at hx; simp at hx; have := h.fr.size; omega⟩
theorem LO.apart {w W : World} {bl bm most : Nat} {vl vm vt : Value} {Ll Lm ts : List Int} (h : LO w W bl bm most vl vm vt Ll Lm ts) : Apart W bm vm vt :=
  ⟨h.mt bm (by simp [ownL]), fun g hg => h.mt g (List.mem_cons_of_mem _ (by simp [hg]))⟩

/-- The numbers from one to ahead of another. -/
def span (a b : Nat) : List Int := (List.range (b - a)).map fun k => ((a + k : Nat) : Int)
theorem span_len (a b : Nat) : (span a b).length = b - a := by simp [span]
theorem span_snoc (a b : Nat) (h : a ≤ b) : span a b ++ [(b : Int)] = span a (b + 1) := by
  unfold span
  rw [show b + 1 - a = (b - a) + 1 by omega, List.range_succ, List.map_append]
  simp
  omega
theorem span_tail (a b : Nat) (h : a < b) : (span a b).eraseIdx 0 = span (a + 1) b ∧ (span a b).getD 0 0 = (a : Int) := by
  unfold span
  obtain ⟨d, hd⟩ : ∃ d, b - a = d + 1 := ⟨b - a - 1, by omega⟩
  rw [hd, show b - (a + 1) = d by omega, List.range_succ_eq_map]
  refine ⟨?_, by simp⟩
  simp only [List.map_cons, List.eraseIdx_cons_zero, List.map_map]
  apply List.map_congr_left
  intro k _
  simp
  omega

end Go.Proofs.Ytobagienhaaceaa
