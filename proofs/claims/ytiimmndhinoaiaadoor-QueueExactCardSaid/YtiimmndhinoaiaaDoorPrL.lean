/-
  Pairs in memory that was just made: laws for the walk (to be named local where they serve).
-/
import Derived.Test.YtiimmndhinoaiaaDoorPrK
namespace Go.Proofs.YtiimmndhinoaiaaDoor
open Go.RowKit
set_option linter.unusedVariables false
theorem pr_layPr_same (W : World) (g o : Nat) (x : Int) (h : can2 W g o = true) : pr? (layPr W g o x) g o = some (pval x) := by
  have ht : W.there g o (pcells x).length := fun j hj => by
    have := List.all_eq_true.1 h j (List.mem_range.2 (by simpa [pcells] using hj))
    simpa using this
  have hr : (layPr W g o x).rangeAt g o (pcells x) := World.rangeAt_setCells_same W g o (pcells x) ht
  have h0 := hr 0 _ rfl
  have h1 := hr 1 _ rfl
  rw [Nat.add_zero] at h0
  unfold pr?
  rw [h0, h1]
  rfl
theorem can_new (W : World) : can2 (W.alloc (.cells #[.int .i64 0, .float .f64 0] 65)) W.heap.size 0 = true := (Blk.new W (pcells 0).toArray 65).prOneCan
theorem run_storePr0 (w : World) (g o : Nat) : (storePr ⟨g, o, none⟩ (.agg #[.int .i64 0, .float .f64 0])).run Tryd.prog w = bif can2 w g o then .ok () (layPr w g o 0) else (storePr' ⟨g, o, none⟩ (pval 0)).run Tryd.prog w := run_storePr w g o 0
def newPr (v : Value) : Sem Addr := newVar 65 v
theorem newVar65 (v : Value) : newVar 65 v = newPr v := rfl
theorem run_newPr (w : World) (x : Int) : (newPr (pval x)).run Tryd.prog w = .ok ⟨w.heap.size, 0, none⟩ (w.alloc (.cells (pcells x).toArray 65)) := by
  kernel_rfl
theorem run_newPr' (w : World) (cs : Array Value) : (newPr (.agg cs)).run Tryd.prog w = .ok ⟨w.heap.size, 0, none⟩ (w.alloc (.cells cs 65)) := by
  kernel_rfl
end Go.Proofs.YtiimmndhinoaiaaDoor
