/-
  SendPlays: both senders side by side; each call's answer is one for both. Plain.
-/
import Derived.Test.YtehdhdocalbfpaaPlayM
import Derived.Test.YtehdhdocalbfpaaSendE
import Derived.Test.YtehdhdocalbfpaaPlayB
import Derived.Test.YtehdhdocalbfpaaPlayD
namespace Go.Proofs.Ytehdhdocalbfpaa
open Go.RowKit ring
set_option linter.unusedVariables false

theorem Ref.notin {W : World} {T : List Nat} {rb win tmo most acked : Nat} {L : List Ev} {A : List Int} (h : Ref W T rb win tmo most acked L A) {b : Nat} {c : Array Value} {t : TypeId} (hb : Blk W b c t) (h1 : t ≠ 81) (h3 : t ≠ 56) (h4 : t ≠ 51) : b ∉ T := by
  obtain ⟨bv, av, hT, hbl, o1, o2⟩ := h.ex
  rw [hT]
  intro hm
  simp only [List.cons_append, List.nil_append, List.mem_cons, List.mem_append, Option.mem_toList] at hm
  rcases hm with rfl | hm | hm
  · exact h1 (hb.inj hbl).2
  · exact own_ne o1 hm hb (Ne.symm h3) rfl
  · exact own_ne o2 hm hb (Ne.symm h4) rfl

/-- Both senders stand alike, apart; the start lies in its box. -/
structure PAt (w wr : World) (S T : List Nat) (sb rb xb : Nat) (cs : Array Value) (win tmo most acked : Nat) (L : List Ev) (A : List Int) : Prop where
  snd : Snd wr S sb win tmo most acked L A
  ref : Ref wr T rb win tmo most acked L A
  ns : ∀ b ∈ S, w.heap.size ≤ b
  nt : ∀ b ∈ T, w.heap.size ≤ b
  ap : ∀ b ∈ S, b ∉ T
  fr : Fr [] w wr
  xc : Blk wr xb cs 45
  u : U32s A
section
variable {w wr w' : World} {S T : List Nat} {sb rb xb : Nat} {cs : Array Value} {win tmo most acked : Nat} {L : List Ev} {A : List Int}
theorem PAt.fr0 (h : PAt w wr S T sb rb xb cs win tmo most acked L A) (f : Fr [] wr w') : PAt w w' S T sb rb xb cs win tmo most acked L A :=
  ⟨h.snd.fr0 f, h.ref.fr0 f, h.ns, h.nt, h.ap, h.fr.trans f (by simp), f.blk h.xc (by simp), h.u⟩
theorem PAt.xS (h : PAt w wr S T sb rb xb cs win tmo most acked L A) : xb ∉ S := h.snd.notin h.xc (by decide) (by decide) (by decide) (by decide)
theorem PAt.xT (h : PAt w wr S T sb rb xb cs win tmo most acked L A) : xb ∉ T := h.ref.notin h.xc (by decide) (by decide) (by decide)
theorem PAt.ref1 (h : PAt w wr S T sb rb xb cs win tmo most acked L A) {w1 : World} {acked' : Nat} {L' : List Ev} {A' : List Int} (hs : SndTo wr S w1 sb win tmo most acked' L' A') : Ref w1 T rb win tmo most acked L A := by
  obtain ⟨S', h1, h2, h3⟩ := hs
  exact h.ref.fr h3 (fun b hb hm => h.ap b hm hb)
theorem PAt.xc1 (h : PAt w wr S T sb rb xb cs win tmo most acked L A) {w1 : World} {acked' : Nat} {L' : List Ev} {A' : List Int} (hs : SndTo wr S w1 sb win tmo most acked' L' A') : Blk w1 xb cs 45 := by
  obtain ⟨S', h1, h2, h3⟩ := hs
  exact h3.blk h.xc h.xS
theorem PAt.step (h : PAt w wr S T sb rb xb cs win tmo most acked L A) {w1 w2 : World} {acked' : Nat} {L' : List Ev} {A' : List Int} (hs : SndTo wr S w1 sb win tmo most acked' L' A') (hr : RefTo w1 T w2 rb win tmo most acked' L' A') (hu : U32s A') :
    ∃ S' T', PAt w w2 S' T' sb rb xb cs win tmo most acked' L' A' := by
  have hx1 := h.xc1 hs
  have hr1 := h.ref1 hs
  obtain ⟨S', h1, h2, h3⟩ := hs
  obtain ⟨T', k1, k2, k3⟩ := hr
  have hsz := h.fr.size
  have hsz1 := h3.size
  have hapT : ∀ b ∈ S', b ∉ T := fun b hb hm => by
    rcases h2 b hb with h4 | h4
    · exact h.ap b h4 hm
    · have := h.ref.lt_size b hm; omega
  refine ⟨S', T', h1.fr k3 hapT, k1, fun b hb => ?_, fun b hb => ?_, fun b hb hm => ?_, (h.fr.trans h3 (fun b hb => .inr (h.ns b hb))).trans k3 (fun b hb => .inr (h.nt b hb)), k3.blk hx1 h.xT, hu⟩
  · rcases h2 b hb with h4 | h4
    · exact h.ns b h4
    · omega
  · rcases k2 b hb with h4 | h4
    · exact h.nt b h4
    · omega
  · rcases k2 b hm with h4 | h4
    · exact hapT b hb h4
    · have := h1.lt_size b hb; omega
/-- The program's sender is another one. -/
theorem PAt.anew (h : PAt w wr S T sb rb xb cs win tmo most acked L A) {w1 : World} {S' : List Nat} {sb' : Nat} (h1 : Snd w1 S' sb' win tmo most acked L A) (h2 : ∀ b ∈ S', wr.heap.size ≤ b) (f : Fr [] wr w1) :
    PAt w w1 S' T sb' rb xb cs win tmo most acked L A :=
  ⟨h1, h.ref.fr0 f, fun b hb => Nat.le_trans h.fr.size (h2 b hb), h.nt, fun b hb hm => by have := h2 b hb; have := h.ref.lt_size b hm; omega, h.fr.trans f (by simp), f.blk h.xc (by simp), h.u⟩
end

/-- A step of a script. -/
structure Stp where
  kd : Int
  e : Ev
  nw : Int
  nm : Int
def Stp.cells (s : Stp) : List Value := .int .i64 s.kd :: (s.e.cells ++ [.int .u32 s.nw, .int .u64 s.nm])
/-- An event in memory that was not written. -/
theorem ev_frT {T : List Nat} {w w' : World} {g : Nat} {v : Value} (f : Fr T w w') (h : ev? w g 0 = some v) (hl : g < w.heap.size) (hg : g ∉ T) : ev? w' g 0 = some v := by
  have hc : ∀ j, w'.cell? ⟨g, j, none⟩ = w.cell? ⟨g, j, none⟩ := fun j => f.cell hl hg
  rw [← h]
  unfold ev?
  simp only [hc]

theorem U32s.app {A : List Int} (h : U32s A) {x : Int} (hx : 0 ≤ x ∧ x < 4294967296) : U32s (A ++ [x]) := fun a ha => by
  rcases List.mem_append.1 ha with h1 | h1
  · exact h a h1
  · simp at h1; subst h1; exact hx
theorem U32s.set {A : List Int} (h : U32s A) {x : Int} (hx : 0 ≤ x ∧ x < 4294967296) (i : Nat) : U32s (A.set i x) := fun a ha => by
  rcases List.mem_or_eq_of_mem_set ha with h1 | h1
  · exact h a h1
  · subst h1; exact hx
theorem U32s.drop {A : List Int} (h : U32s A) (n : Nat) : U32s (A.drop n) := fun a ha => h a (List.mem_of_mem_drop ha)

section
variable (win tmo most acked : Nat) (L : List Ev) (A : List Int)
/-- Offer answers alike. -/
theorem offers (x : Ev) (hm : L.length ≤ most) (la : acked + L.length < 18446744073709551616) : ∃ (a b : Int) (L' : List Ev),
    (∀ W S sb, Snd W S sb win tmo most acked L A → Calls Try.prog 17 #[.pointer (some ⟨sb, 0, none⟩), x.val] W fun e w' => e = .returned (.tuple #[.int .u64 a, .int .i64 b]) ∧ SndTo W S w' sb win tmo most acked L' A) ∧
    (∀ W T rb, Ref W T rb win tmo most acked L A → Calls Try.prog 28 #[.pointer (some ⟨rb, 0, none⟩), x.val] W fun e w' => e = .returned (.tuple #[.int .u64 a, .int .i64 b]) ∧ RefTo W T w' rb win tmo most acked L' A) := by
  by_cases h1 : L.length = most
  · exact ⟨_, _, _, fun W S sb h => offer_full W S sb win tmo most acked L A x h h1, fun W T rb h => roffer_full W T rb win tmo most acked L A x h h1⟩
  · by_cases h2 : acked + L.length + 1 < 18446744073709551616
    · exact ⟨_, _, _, fun W S sb h => offer_ok W S sb win tmo most acked L A x h (by omega) h2, fun W T rb h => roffer_ok W T rb win tmo most acked L A x h (by omega) h2⟩
    · exact ⟨_, _, _, fun W S sb h => offer_out W S sb win tmo most acked L A x h (by omega) (by omega), fun W T rb h => roffer_out W T rb win tmo most acked L A x h (by omega) (by omega)⟩
/-- Ack answers alike. -/
theorem acks (k : Int) (hu : U32s A) : ∃ (b : Bool) (acked' : Nat) (L' : List Ev) (A' : List Int), U32s A' ∧
    (∀ W S sb, Snd W S sb win tmo most acked L A → Calls Try.prog 24 #[.pointer (some ⟨sb, 0, none⟩), .int .u64 k] W fun e w' => e = .returned (.bool b) ∧ SndTo W S w' sb win tmo most acked' L' A') ∧
    (∀ W T rb, Ref W T rb win tmo most acked L A → Calls Try.prog 31 #[.pointer (some ⟨rb, 0, none⟩), .int .u64 k] W fun e w' => e = .returned (.bool b) ∧ RefTo W T w' rb win tmo most acked' L' A') := by
  by_cases h1 : k ≤ acked ∨ (acked : Int) + A.length < k
  · exact ⟨_, _, _, _, hu, fun W S sb h => ack_no W S sb win tmo most acked L A k h h1, fun W T rb h => rack_no W T rb win tmo most acked L A k h h1⟩
  · obtain ⟨n, hn⟩ : ∃ n : Nat, k = (acked : Int) + n := ⟨(k - acked).toNat, by omega⟩
    subst hn
    exact ⟨_, _, _, _, hu.drop n, fun W S sb h => ack_yes W S sb win tmo most acked L A n h (by omega) (by omega), fun W T rb h => rack_yes W T rb win tmo most acked L A n h (by omega) (by omega)⟩
/-- Next answers alike. -/
theorem nexts (now : Int) (hn : 0 ≤ now ∧ now < 4294967296) (hu : U32s A) (hal : A.length ≤ L.length) : ∃ (a : Int) (y : Ev) (b : Bool) (A' : List Int), U32s A' ∧
    (∀ W S sb, Snd W S sb win tmo most acked L A → Calls Try.prog 20 #[.pointer (some ⟨sb, 0, none⟩), .int .u32 now] W fun e w' => e = .returned (.tuple #[.int .u64 a, y.val, .bool b]) ∧ SndTo W S w' sb win tmo most acked L A') ∧
    (∀ W T rb, Ref W T rb win tmo most acked L A → Calls Try.prog 30 #[.pointer (some ⟨rb, 0, none⟩), .int .u32 now] W fun e w' => e = .returned (.tuple #[.int .u64 a, y.val, .bool b]) ∧ RefTo W T w' rb win tmo most acked L A') := by
  rcases hw : wayOf win tmo L.length A now with _ | _ | _
  · exact ⟨_, _, _, _, hu, fun W S sb h => next_none W S sb win tmo most acked L A now h hw, fun W T rb h => rnext_none W T rb win tmo most acked L A now h hn hu hw⟩
  · have h0 := wayOf_again hw
    obtain ⟨x, hx⟩ : ∃ x, L[0]? = some x := ⟨_, List.getElem?_eq_getElem (by omega)⟩
    exact ⟨_, _, _, _, hu.set hn 0, fun W S sb h => next_again W S sb win tmo most acked L A now x h hw hx, fun W T rb h => rnext_again W T rb win tmo most acked L A now x h hn hu hw hx⟩
  · have h0 := wayOf_fresh hw
    obtain ⟨x, hx⟩ : ∃ x, L[A.length]? = some x := ⟨_, List.getElem?_eq_getElem h0.1⟩
    refine ⟨_, _, _, _, hu.app hn, fun W S sb h => next_fresh W S sb win tmo most acked L A now x h hw hx, fun W T rb h => (rnext_fresh W T rb win tmo most acked L A now x h hn hu hw hx).mono fun e w' h => ?_⟩
    rw [show (acked : Int) + 1 + (A.length : Int) = (acked : Int) + (A.length : Int) + 1 by omega]
    exact h
end

end Go.Proofs.Ytehdhdocalbfpaa
