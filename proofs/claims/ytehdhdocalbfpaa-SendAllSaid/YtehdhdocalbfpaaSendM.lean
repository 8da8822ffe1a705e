/-
  SendAll: events that were offered, some of them sent already; the clock goes up by one, Next is called as long as it tells something, what is the next one to be acknowledged is: at the end all are, within timeout + 1 such rounds for each. For every input.
-/
import Derived.Test.YtehdhdocalbfpaaSendL
import Derived.Test.YtehdhdocalbfpaaSendI
namespace Go.Proofs.Ytehdhdocalbfpaa
open Go.RowKit Go.Shelf Go.ChangeShapes Go.WideShapes Go.ChangeAt
set_option linter.unusedVariables false

theorem cells56 : Try.prog.cellsOf 56 = 8 := by kernel_rfl
theorem cells74 : Try.prog.cellsOf 74 = 10 := by kernel_rfl
theorem ten_of {α : Type} {l : List α} (h : l.length = 10) : ∃ a b c d e f g h' i j, l = [a, b, c, d, e, f, g, h', i, j] := by
  match l, h with
  | [a, b, c, d, e, f, g, h', i, j], _ => exact ⟨a, b, c, d, e, f, g, h', i, j, rfl⟩
theorem eight_of {α : Type} {l : List α} (h : l.length = 8) : ∃ a b c d e f g h', l = [a, b, c, d, e, f, g, h'] := by
  match l, h with
  | [a, b, c, d, e, f, g, h'], _ => exact ⟨a, b, c, d, e, f, g, h', rfl⟩
theorem read_evs {w : World} {H : Type} {enc : TypeId × Value → H} {fuel : Nat} {v : Value} {x : DataW H × List MemPlace} (h : DataW.trod enc Try.prog w 0 (fun _ => true) true fuel 42 [v] = some x) :
    ∃ l, RdS w v 8 (fun cs (e : Ev) => cs = e.cells) l := by
  have := read_slice (t := 42) (e := 56) Try.underlying42 (by rw [cells56]; omega) (fun cs (e : Ev) => cs = e.cells) (fun n cs x hx => by
    have hl : cs.length = 8 := by
      obtain ⟨xs, m, _, _, hl, hlen, hf⟩ := DataW.trod_struct Try.underlying56 hx
      rw [cells56] at hl
      exact hl
    obtain ⟨a0, a1, a2, a3, a4, a5, a6, a7, rfl⟩ := eight_of hl
    obtain ⟨k, o, f, n, x, y, c, s, he⟩ := read_event hx
    exact ⟨⟨k, o, f, n, x, y, c, s⟩, by rw [he]; rfl⟩) h
  rw [cells56] at this
  obtain ⟨v', l, h1, h2⟩ := this
  obtain rfl : v = v' := by simpa using h1
  exact ⟨l, h2⟩
theorem read_nat {w : World} {H : Type} {enc : TypeId × Value → H} {fuel : Nat} {t : TypeId} {v : Value} {x : DataW H × List MemPlace} (ht : Try.prog.underlying t = some (.int .u32)) (h : DataW.trod enc Try.prog w 0 (fun _ => true) true fuel t [v] = some x) : ∃ n : Int, v = .int .u32 n ∧ 0 ≤ n := by
  obtain ⟨n, h1, h2⟩ := read_int ht h
  refine ⟨n, by simpa using h1, ?_⟩
  simp [Lit.wf] at h2
  have h3 : IntKind.u32.min = 0 := by first | rfl | decide
  omega
set_option maxRecDepth 100000 in
theorem read_sending {w : World} {H : Type} {enc : TypeId × Value → H} {fuel : Nat} {cs : List Value} {x : DataW H × List MemPlace} (h : DataW.trod enc Try.prog w 0 (fun _ => true) true fuel 74 cs = some x) :
    ∃ (fr : Bool) (win tmo most ac : Int) (p1 p2 : Option Addr) (l1 c1 l2 c2 : Nat) (ev : Value) (E : List Ev) (calls now : Int), cs = [.bool fr, .int .i64 win, .int .i64 tmo, .int .i64 most, .int .u64 ac, .slice p1 l1 c1, .slice p2 l2 c2, ev, .int .i64 calls, .int .u32 now] ∧ RdS w ev 8 (fun cs (e : Ev) => cs = e.cells) E ∧ 0 ≤ now := by
  obtain ⟨xs, m, _, _, hl, hlen, hf⟩ := DataW.trod_struct Try.underlying74 h
  rw [cells74] at hl
  obtain ⟨b0, b1, b2, b3, b4, b5, b6, b7, b8, b9, rfl⟩ := ten_of hl
  have hlen : xs.length = 4 := hlen
  match xs, hlen with
  | [y0, y1, y2, y3], _ =>
    obtain ⟨fr, win, tmo, most, ac, p1, p2, l1, c1, l2, c2, he⟩ := read_start (cs := [b0, b1, b2, b3, b4, b5, b6]) (hf 0 _ rfl)
    obtain ⟨E, hE⟩ := read_evs (v := b7) (hf 1 _ rfl)
    obtain ⟨n8, rfl⟩ := read_one (v := b8) Try.underlying3 (hf 2 _ rfl)
    obtain ⟨n9, rfl, h9⟩ := read_nat (v := b9) Try.underlying51 (hf 3 _ rfl)
    cases he
    exact ⟨fr, win, tmo, most, ac, p1, p2, l1, c1, l2, c2, b7, E, n8, n9, rfl, hE, h9⟩

namespace sendAll
theorem walk (w : World) (fr : Bool) (win tmo most ac : Int) (p1 p2 : Option Addr) (l1 c1 l2 c2 : Nat) (ev : Value) (E : List Ev) (calls now : Int) (hP : RdS w ev 8 (fun cs (e : Ev) => cs = e.cells) E) (hn : 0 ≤ now) :
    Calls Try.prog 7 #[.agg #[.bool fr, .int .i64 win, .int .i64 tmo, .int .i64 most, .int .u64 ac, .slice p1 l1 c1, .slice p2 l2 c2, ev, .int .i64 calls, .int .u32 now]] w fun e w' => e = .returned (.bool true) ∧ Fr [] w w' := by
  obtain ⟨lp, lc, hlv, _⟩ := RdS.form hP
  by_cases h : win < 1 ∨ 32 < win ∨ tmo < 1 ∨ 1000 < tmo ∨ most < 1 ∨ 256 < most
  · rw [hlv]; exact walk_bad w fr win tmo most ac p1 p2 l1 c1 l2 c2 lp _ lc calls now h
  · obtain ⟨a, rfl⟩ := Int.eq_ofNat_of_zero_le (show 0 ≤ win by omega)
    obtain ⟨b, rfl⟩ := Int.eq_ofNat_of_zero_le (show 0 ≤ tmo by omega)
    obtain ⟨c, rfl⟩ := Int.eq_ofNat_of_zero_le (show 0 ≤ most by omega)
    exact walk_ok w fr a b c ac p1 p2 l1 c1 l2 c2 ev E calls now (by omega) (by omega) (by omega) hP hn
set_option maxRecDepth 100000 in
theorem lifted (os : Os) (started : os.Started) (H : Type) (enc : TypeId × Value → H) :
    ReturnsInHanded {} Try.checked os 7 .any (Rows.sendAllSpec.pre6 enc Try.prog Try.f7 Rows.sendAllRow.domain false) (Rows.sendAllSpec.post enc Try.prog Try.f7 false true false false) := by
  refine returnsInHanded_of_change (C := Try.checked) own started (by kernel_rfl) Try.func7
    (ChangeSpec.witness6 (enc := enc) (C := Try.checked) false ⟨#[], #[.agg #[.bool false, .int .i64 0, .int .i64 0, .int .i64 0, .int .u64 0, .slice none 0 0, .slice none 0 0, .slice none 0 0, .int .i64 0, .int .u32 0]], []⟩ 12 (by kernel_rfl) (by kernel_rfl) (by kernel_rfl) (by kernel_rfl)) ?_
  intro W base args ds gs before hval0 hW hcnd _
  have hval : ∀ (j : Nat) t v, Try.f7.params[j]? = some t → args[j]? = some v → Value.okWide Try.prog W .any base t v := hval0
  have hW' := hW
  obtain ⟨p, q, hA, hV, rfl, hfz, hnd⟩ := hW
  rw [Try.params7] at hA hval
  obtain ⟨v0, d0, hargs, rfl, h0⟩ := trodAll_one hA
  obtain ⟨rfl, rfl⟩ := trodVars_none hV
  have : args = #[v0] := by simpa using hargs
  subst this
  obtain ⟨fu0, l0, rfl, e0⟩ := open_agg Try.underlying74 (hval 0 74 v0 rfl rfl) h0
  obtain ⟨fr, win, tmo, most, ac, q1, q2, l1, c1, l2, c2, ev, E, calls, now, rfl, hE, hnow⟩ := read_sending e0
  refine (walk W fr win tmo most ac q1 q2 l1 c1 l2 c2 ev E calls now hE hnow).mono fun e W' ⟨he, hg⟩ => ?_
  exact ⟨_, he, law_post (tb := 4) laidOut (by
    rw [Try.params7]; intro t ht; simp at ht
    subst ht
    · exact ⟨by kernel_rfl, of_decide_eq_true (by kernel_rfl)⟩) rfl Try.underlying4 rfl hW' rfl hg⟩
theorem over : Rows.sendAllRow.holds Try.pinned (OpenSpec.ofChange Rows.sendAllSpec) :=
  OpenClaim.holds_of_wide 7 Try.f7 rfl rfl rfl rfl rfl rfl rfl ⟨rfl, rfl, rfl, rfl, rfl⟩ rfl rfl rfl rfl rfl (by kernel_rfl) Try.func7 (by kernel_rfl)
    (of_decide_eq_true (by kernel_rfl)) (by unfold Func.isWrapper; first | (rw [if_pos (by decide +kernel)]; kernel_rfl) | (rw [if_neg (by decide +kernel)]; exact ⟨rfl, rfl⟩))
    (fun os started H enc _ => lifted os started H enc)
/-- The statement SendAll. -/
theorem proved : Rows.SendAllSaid := over
#print axioms proved

end sendAll

end Go.Proofs.Ytehdhdocalbfpaa
