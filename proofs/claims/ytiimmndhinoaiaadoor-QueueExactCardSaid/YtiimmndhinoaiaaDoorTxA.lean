/-
  text: the text that stands for a number.
-/
import Derived.Test.YtiimmndhinoaiaaDoorBks
import Derived.Test.YtiimmndhinoaiaaDoorShelf
namespace Go.Proofs.YtiimmndhinoaiaaDoor
open Go.RowKit
set_option linter.unusedVariables false
theorem gPow : Tryd.prog.globalNamed "internal/strconv.uint64pow10" = some 0 := by kernel_rfl
/-- The powers of ten lie where the library has them. -/
def TB (w : World) : Prop := Lib.TabIs Tryd.prog w "internal/strconv.uint64pow10" .u64 Lib.pow10Tab
theorem TB.lt {w : World} (h : TB w) : 0 < w.heap.size := by
  unfold TB Lib.TabIs World.var? at h
  rw [gPow] at h
  rcases Nat.lt_or_ge 0 w.heap.size with h' | h'
  · exact h'
  · simp only [Option.bind_some] at h
    rw [Array.getElem?_eq_none h'] at h; simp at h
theorem TB.fr {S : List Nat} {w w' : World} (h : TB w) (f : Fr S w w') (hs : 0 ∉ S) : TB w' := by
  have hl := h.lt
  unfold TB Lib.TabIs World.var? at *
  rw [gPow] at *
  simp only [Option.bind_some] at h ⊢
  rw [f.block 0 hl hs]
  exact h
/-- The text of a number. -/
def txt (v : Int) : ByteArray := if v = 0 then ⟨#[]⟩ else ⟨#[119]⟩ ++ ⟨(Lib.itoa v).toArray⟩
theorem fr_grow (w : World) (k : Nat) (os : Array Obj) : Fr [] w (Go.Sort.grow (w.drewN k) os) :=
  ⟨rfl, rfl, rfl, by simp [Go.Sort.grow], fun j hj _ => by simp only [Go.Sort.grow]; exact Array.getElem?_append_left (by simpa using hj)⟩
def I64 (v : Int) : Prop := -9223372036854775808 ≤ v ∧ v ≤ 9223372036854775807
theorem itoa_len (v : Int) (h : I64 v) : (Lib.itoa v).length ≤ 21 := by
  obtain ⟨h0, h1⟩ := h
  have hd : ∀ u : Nat, u < 18446744073709551616 → (Lib.decDigits u).length ≤ 20 := fun u hu => by
    rw [Lib.decDigits_length]
    by_cases h0 : u = 0
    · subst h0; rw [Lib.nDigits_small (by omega)]; omega
    · have := Lib.numDigits_eq u (by omega) hu
      split at this <;> omega
  by_cases hn : v < 0
  · obtain ⟨u, rfl⟩ : ∃ u : Nat, v = -(u : Int) := ⟨v.natAbs, by omega⟩
    rw [Lib.itoa_neg u (by omega)]
    have := hd u (by omega)
    simp only [List.length_cons]
    omega
  · obtain ⟨u, rfl⟩ : ∃ u : Nat, v = u := ⟨v.toNat, by omega⟩
    rw [Lib.itoa_nonneg]
    have := hd u (by omega)
    omega
theorem text_any (w : World) (v : Int) (hv : I64 v) (hw : TB w) : Calls Tryd.prog 11 #[.int .i64 v] w fun e w' => e = .returned (.string (txt v)) ∧ Fr [] w w' := by
  have HS := Lib.hid (Tryd.strconv_Itoa v hv.1 hv.2 w hw)
  have hv0 := hv
  clear hw hv
  by_cases h0 : v = 0
  · subst h0
    clear HS
    go_enter Tryd.func11, Tryd.ntmps11
    go_wp2
    go_ret
    exact ⟨rfl, Fr.refl _ _⟩
  · have hb : (v == 0) = false := by simpa using h0
    have HT := Lib.hid (show txt v = ⟨#[119]⟩ ++ ⟨(Lib.itoa v).toArray⟩ from if_neg h0)
    have hl := itoa_len v hv0
    generalize Lib.itoa v = l at *
    have hl2 : ¬ 9223372036854775807 < 1 + l.length := by omega
    clear hl
    go_enter Tryd.func11, Tryd.ntmps11
    go_wp2_with fail
    (with_reducible refine HS.out.mono ?_)
    rintro e w1 ⟨rfl, k, os, rfl⟩
    have HF := Lib.hid (fr_grow w k os)
    generalize Go.Sort.grow (w.drewN k) os = w1 at *
    go_wp2
    go_ret
    exact ⟨by rw [HT.out]; rfl, HF.out⟩
end Go.Proofs.YtiimmndhinoaiaaDoor
