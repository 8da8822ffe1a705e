/-
  The queue's text: the text that stands for a number.
-/
import Derived.Test.YtiimmndhinoaiaaDoorTxA
namespace Go.Proofs.YtiimmndhinoaiaaDoor
open Go.RowKit
set_option linter.unusedVariables false
/-- The text of a number. -/
def qtx (v : Int) : ByteArray := if v = 0 then ⟨#[]⟩ else ⟨#[118]⟩ ++ ⟨(Lib.itoa v).toArray⟩
theorem qtext_any (w : World) (v : Int) (hv : I64 v) (hw : TB w) : Calls Tryd.prog 53 #[.int .i64 v] w fun e w' => e = .returned (.string (qtx v)) ∧ Fr [] w w' := by
  have HS := Lib.hid (Tryd.strconv_Itoa v hv.1 hv.2 w hw)
  have hv0 := hv
  clear hw hv
  by_cases h0 : v = 0
  · subst h0
    clear HS
    go_enter Tryd.func53, Tryd.ntmps53
    go_wp2
    go_ret
    exact ⟨rfl, Fr.refl _ _⟩
  · have hb : (v == 0) = false := by simpa using h0
    have HT := Lib.hid (show qtx v = ⟨#[118]⟩ ++ ⟨(Lib.itoa v).toArray⟩ from if_neg h0)
    have hl := itoa_len v hv0
    generalize Lib.itoa v = l at *
    have hl2 : ¬ 9223372036854775807 < 1 + l.length := by omega
    clear hl
    go_enter Tryd.func53, Tryd.ntmps53
    go_wp2_with fail
    (with_reducible refine HS.out.mono ?_)
    rintro e w1 ⟨rfl, k, os, rfl⟩
    have HF := Lib.hid (fr_grow w k os)
    generalize Go.Sort.grow (w.drewN k) os = w1 at *
    go_wp2
    go_ret
    exact ⟨by rw [HT.out]; rfl, HF.out⟩
end Go.Proofs.YtiimmndhinoaiaaDoor
