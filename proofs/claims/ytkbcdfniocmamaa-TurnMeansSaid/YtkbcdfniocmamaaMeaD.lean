/-
  TurnMeans: of any headings the one in the middle. For every input.
-/
import Derived.Test.YtkbcdfniocmamaaMeaC
import Derived.Test.YtkbcdfniocmamaaMapX
import Derived.SizedLaws
namespace Go.Proofs.Ytkbcdfniocmamaa
open Go.RowKit Go.ChangeShapes Go.WideShapes Go.ChangeAt
set_option linter.unusedVariables false
namespace means
/-- How many elements a datum has. -/
def dlen {H : Type} : DataW H → Nat
  | .slice es _ => es.length
  | _ => 0
theorem sized_top {H : Type} {ts : List TypeId} {ds : List (DataW H)} (hsz : (DataW.weightsEach Try.prog ts ds).all (· ≤ reachBytes) = true) {t e : TypeId} {d : DataW H} (ht : ts[0]? = some t) (hd : ds[0]? = some d) (hu : Try.prog.underlying t = some (.slice e)) : dlen d * Try.prog.bytesOf e ≤ 140737488351232 := by
  cases d with
  | slice es sp =>
    have h1 : (es.length + sp.length) * Try.prog.bytesOf e ∈ (DataW.slice es sp).weights Try.prog t := by simp [DataW.weights, hu]
    have h3 := List.all_eq_true.1 hsz _ (DataW.weights_mem_each ht hd _ h1)
    have h4 : (es.length + sp.length) * Try.prog.bytesOf e ≤ 140737488351232 := by
      have h5 : reachBytes = 140737488351232 := rfl
      rw [← h5]
      simpa using h3
    refine Nat.le_trans (Nat.mul_le_mul_right _ ?_) h4
    simp [dlen]
  | _ => simp [dlen]
theorem read_words {w : World} {H : Type} {enc : TypeId × Value → H} {fuel : Nat} {a : Option Addr} {n c : Nat} {x : DataW H × List MemPlace} (h : DataW.trod enc Try.prog w 0 (fun _ => true) true fuel 72 [.slice a n c] = some x) :
    ∃ b, RdB w (.slice a n c) n b ∧ dlen x.1 = n := by
  obtain ⟨u, bs, hu, hR⟩ := read_slice Try.underlying72 (by rw [cells22]; omega) (fun cs (m : Nat) => cs = [.int .u64 m]) (fun k cs y hy => by
    obtain ⟨m, h1, h2⟩ := read_int Try.underlying22 hy
    obtain ⟨q, rfl, _⟩ := nat_u64 h2
    exact ⟨q, h1⟩) h
  have hvu : Value.slice a n c = u := by simpa using hu
  subst hvu
  rw [cells22] at hR
  obtain ⟨p, cap, hv, h1, h2, h3⟩ := hR
  have hn : bs.length = n := (Value.slice.inj hv).2.1.symm
  have hdl : dlen x.1 = n := by
    rcases DataW.trod_slice Try.underlying72 h with ⟨h4, rfl⟩ | ⟨a', len, cap', elems, rest, k, _, h4, rfl, _, _, _, hl, _⟩
    · have h4 : Value.slice a n c = .slice none 0 0 := by simpa using h4
      have := (Value.slice.inj h4).2.1
      simp [dlen, this]
    · have h4 : Value.slice a n c = .slice (some a') len cap' := by simpa using h4
      have := (Value.slice.inj h4).2.1
      simp [dlen]; omega
  refine ⟨fun k => bs.getD k 0, ⟨a, c, rfl, ?_⟩, hdl⟩
  rcases h3 with h3 | ⟨g, o, hp, h3⟩
  · exact .inl (by omega)
  · refine .inr ⟨g, o, ?_, fun k hk => ?_⟩
    · rw [(Value.slice.inj hv).1, hp]
    · obtain ⟨cs, h4, h5, h6⟩ := h3 k (by omega)
      subst h6
      have := h5 0 _ rfl
      rw [Nat.mul_one, Nat.add_zero] at this
      rw [this]
      simp [List.getD_eq_getElem?_getD, show k < bs.length by omega]
set_option maxRecDepth 100000 in
theorem lifted (os : Os) (started : os.Started) (H : Type) (enc : TypeId × Value → H) :
    ReturnsInHanded {} Try.checked os 6 .any (Rows.turnMeansSpec.pre6 enc Try.prog Try.f6 Rows.turnMeansRow.domain false) (Rows.turnMeansSpec.post enc Try.prog Try.f6 false true false false) := by
  refine returnsInHanded_of_change_sized (C := Try.checked) own started (by kernel_rfl) Try.func6
    (ChangeSpec.witness6 (enc := enc) (C := Try.checked) false ⟨#[], #[.slice none 0 0], []⟩ 12 (by kernel_rfl) (by kernel_rfl) (by kernel_rfl) (by kernel_rfl)) ?_
  intro W base args ds gs before hval0 hW hcnd hsz _
  have hval : ∀ (j : Nat) t v, Try.f6.params[j]? = some t → args[j]? = some v → Value.okWide Try.prog W .any base t v := hval0
  have hW' := hW
  obtain ⟨p, q, hA, hV, rfl, hfz, hnd⟩ := hW
  rw [Try.params6] at hA hval
  obtain ⟨v0, d0, hargs, rfl, h0⟩ := trodAll_one hA
  obtain ⟨rfl, rfl⟩ := trodVars_none hV
  have : args = #[v0] := by simpa using hargs
  subst this
  obtain ⟨a1, n1, m1, rfl⟩ := okWide_slice Try.underlying72 (hval 0 72 v0 rfl rfl)
  obtain ⟨fuel, hf⟩ := h0
  obtain ⟨b, hb, hd⟩ := read_words hf
  have hsz2 := sized_top hsz rfl rfl Try.underlying72
  rw [hd, show Try.prog.bytesOf 22 = 8 by kernel_rfl] at hsz2
  refine (walk W _ n1 b (by omega) hb).mono fun e W' ⟨he, hg⟩ => ?_
  exact ⟨_, he, law_post (tb := 4) laidOut (by
    rw [Try.params6]; intro t ht; simp at ht
    subst ht
    · exact ⟨by kernel_rfl, of_decide_eq_true (by kernel_rfl)⟩) rfl Try.underlying4 rfl hW' rfl hg⟩
theorem over : Rows.turnMeansRow.holds Try.pinned (OpenSpec.ofChange Rows.turnMeansSpec) :=
  OpenClaim.holds_of_wide 6 Try.f6 rfl rfl rfl rfl rfl rfl rfl ⟨rfl, rfl, rfl, rfl, rfl⟩ rfl rfl rfl rfl rfl (by kernel_rfl) Try.func6 (by kernel_rfl)
    (of_decide_eq_true (by kernel_rfl)) (by unfold Func.isWrapper; first | (rw [if_pos (by decide +kernel)]; kernel_rfl) | (rw [if_neg (by decide +kernel)]; exact ⟨rfl, rfl⟩))
    (fun os started H enc _ => lifted os started H enc)
/-- The statement TurnMeans. -/
theorem proved : Rows.TurnMeansSaid := over
#print axioms proved

end means
end Go.Proofs.Ytkbcdfniocmamaa
