/-
  QueueNil: a nil Ring, and a zero one. For every input.
-/
import Derived.Test.YtehdhdocalbfpaaQueueNA
import Derived.Test.YtehdhdocalbfpaaRangeIn
import Derived.Test.YtehdhdocalbfpaaQueueF
import Derived.ChangeShapes
import Derived.Shelf.Abstract
namespace Go.Proofs.Ytehdhdocalbfpaa
open Go.RowKit Go.Shelf Go.ChangeShapes Go.WideShapes Go.ChangeAt
set_option linter.unusedVariables false
attribute [local go_sem] Oper.semAt_some

/-- What a round keeps: these blocks; the books from B on. -/
def Kpb (S : List Nat) (B : Nat) (W W' : World) : Prop := (∀ k, k ∈ S → W'.heap[k]? = W.heap[k]?) ∧ KeepsFrom B W W'
theorem Kpb.trans {S : List Nat} {D : Nat} {A B C : World} (h : Kpb S D A B) (k : Kpb S D B C) : Kpb S D A C := ⟨fun i hi => (k.1 i hi).trans (h.1 i hi), h.2.trans k.2⟩
theorem Kpb.put {S : List Nat} {W : World} {B l : Nat} (o' : Obj) (hl : l ∉ S) (hB : l < B) : Kpb S B W (W.putObj l o') :=
  ⟨fun k hk => World.putObj_heap_other (by rintro rfl; exact hl hk), by simp [World.putObj], fun k o hk h _ => (World.putObj_heap_other (by omega)).trans h⟩
theorem nall_tells (m k B : Nat) : Tells Fence.wide m Try.prog 71 #[.pointer (some ⟨k, 0, none⟩)] (fun (x : Int × ByteArray) => #[.int .i64 x.1, .string x.2]) [] (Kpb [] B) (fun xs => xs = []) (fun pre => pre <+: []) 0 (fun W => Blk W k #[.slice none 0 0] 37) (fun _ => True) := by
  intro l J Jx W hW hJ hJx hY h0
  refine callsIn_of_wp Try.func71 rfl trivial ?_ rfl
  simp only [Try.ntmps71, List.size_toArray, List.length_cons, List.length_nil, Nat.reduceAdd, Nat.reduceSub, Array.replicate_succ, Array.replicate_zero, List.push_toArray, List.append_toArray, List.nil_append, List.cons_append]
  refine wpIn_wide.2 ?_
  have c0 := hW.at 0 (v := .slice none 0 0) rfl
  have H0 := Lib.hid h0
  clear hJ hJx hY h0 hW
  go_wp2
  refine wp_loop_rounds 1 ?_
  rw [rounds_succ]
  go_wp2
  go_end0
  exact ⟨⟨_, rfl⟩, trivial, .inl ⟨[], rfl, H0.out⟩⟩

/-- What empty holds. -/
structure ES (w : World) (p : Option Addr) (A B V I : Int) (W : World) : Prop where
  a : Blk W w.heap.size #[.int .i64 A, .int .i64 B, .int .i64 V, .int .i64 I] 34
  r : Blk W (w.heap.size + 1) #[.bool false] 4
  fr : Fr [] w W
  nul : Nul W p
theorem ES.to {w W W' : World} {p : Option Addr} {A B V I : Int} (h : ES w p A B V I W) (f : Fr [] W W') : ES w p A B V I W' := ⟨f.blk h.a (by simp), f.blk h.r (by simp), h.fr.trans f (by simp), h.nul.fr f⟩
theorem es_ab (w : World) (p : Option Addr) (K0 K V I : Int) (B : Nat) (hB : w.heap.size ≤ B) : Ab B [] (fun (_ : List (Int × ByteArray)) W => ES w p K0 K V I W) := by
  intro s A A' row h hg hr
  refine ⟨blk_ab hg hr h.a (by simp), blk_ab hg hr h.r (by simp), fr_ab hg hr hB h.fr (by simp), ?_⟩
  rcases h.nul with h1 | ⟨z, h1, h2⟩
  · exact .inl h1
  · exact .inr ⟨z, h1, blk_ab hg hr h2 (by simp)⟩
theorem eql95 (f : Fn) (x l : Array Value) (w : World) : (binOp .eql 95 (.func f x l) .nilFunc).run Try.prog w = .ok (.bool false) w := by kernel_rfl

set_option maxRecDepth 100000 in
set_option maxHeartbeats 4000000 in
theorem empty_any (w : World) (p : Option Addr) (A B V I : Int) (hp : Nul w p) :
    Calls Try.prog 15 #[.pointer p, .agg #[.int .i64 A, .int .i64 B, .int .i64 V, .int .i64 I]] w fun e w' => e = .returned (.bool true) ∧ Fr [] w w' := by
  have hq := eql95
  have HP := Lib.hid hp
  clear hp
  refine (callsIn_wide (n := 9)).1 ?_
  refine callsIn_of_wp_marks Try.func15 rfl trivial ?_ rfl
  simp only [Try.ntmps15, List.size_toArray, List.length_cons, List.length_nil, Nat.reduceAdd, Nat.reduceSub, Array.replicate_succ, Array.replicate_zero, List.push_toArray, List.append_toArray, List.nil_append, List.cons_append]
  gi_wp2_with fail
  generalize hw1 : World.alloc (World.alloc w _) _ = w1
  have es : ES w p A B V I w1 := by
    have hf : Fr [] w w1 := by rw [← hw1]; exact ((Fr.refl _ w).alloc _).alloc _
    exact ⟨by rw [← hw1]; exact (Blk.new w _ _).alloc _, by rw [← hw1]; exact Blk.new_at (by simp) _ _, hf, HP.out.fr hf⟩
  have EH := Lib.hid es
  have NU := Lib.hid es.nul
  have cI := es.a.at 3 (v := .int .i64 I) rfl
  clear es hw1
  refine ⟨trivial, ?_⟩
  refine (callsIn_wide.2 (npop _ p NU.out)).mono ?_
  rintro e w2 ⟨⟨s, rfl⟩, rfl⟩
  gi_wp2_with fail
  refine ⟨trivial, ?_⟩
  refine (callsIn_wide.2 (nat _ p _ NU.out)).mono ?_
  rintro e w2 ⟨⟨s2, rfl⟩, rfl⟩
  gi_wp2_with fail
  refine ⟨trivial, ?_⟩
  refine (callsIn_wide.2 (ncut _ p _ NU.out)).mono ?_
  rintro e w2 ⟨⟨s3, rfl⟩, rfl⟩
  gi_wp2_with fail
  refine ⟨trivial, ?_⟩
  refine (callsIn_wide.2 (nall _ p NU.out)).mono ?_
  rintro e w3 ⟨k, rfl, hk, f3⟩
  have EH := Lib.hid (EH.out.to f3)
  have HK3 := Lib.hid hk
  clear f3 hk NU cI
  have ES3 := EH
  gi_wp2_with fail
  refine wpIn_range_tm (w := w3) (ps := #[36, 37]) (encs := fun (x : Int × ByteArray) => #[.int .i64 x.1, .string x.2]) rfl (by decide) (gf := 71) (lb := #[.pointer (some ⟨k, 0, none⟩)]) rfl trivial (enters_of Try.func71 (by kernel_rfl) rfl)
    (nall_tells _ k (w3.heap.size + 2)) Kpb.trans (fun W l o o' hl h1 h2 => Kpb.put o' (by simp) (by omega)) (fun W hf _ => hf.blk HK3.out (by simp)) (fun _ _ _ _ _ _ _ h => h) (by simp) (fun _ => rfl)
    (fun _ W => ES w p A B V I W) (fun _ _ _ => False) (es_ab w p A B V I _ EH.out.fr.size) (fun c s A A' row h hg hr => h)
    EH.out
    (fun tm x a' W => a' = { tmps := (tm.setIfInBounds 36 (.int .i64 x.1)).setIfInBounds 37 (.string x.2), defers := [] }) ?hAx ?hassign ?hbody ?hdone ?hstop
  case hAx => exact fun x a' s A A' row h hg hr => h
  case hassign =>
    intro l pre x W K hI hK
    have HK := Lib.hid hK
    clear hK
    simp only [List.zip_toArray, Array.foldl]
    gi_wp2
    refine HK.out _ _ (KeepsFrom.refl _ _) ⟨fun _ _ => rfl, KeepsFrom.refl _ _⟩ hI ?_
    rfl
  case hbody =>
    intro l pre x a' W _ _ _ _ hN
    omega
  case hdone =>
    rintro D xs W hD - hI hen hK
    have EH := Lib.hid hI
    have NU := Lib.hid hI.nul
    have HD := Lib.hid (And.intro hD hK)
    have cI := EH.out.a.at 3 (v := .int .i64 I) rfl
    have cV := EH.out.a.at 2 (v := .int .i64 V) rfl
    clear hI hen hK hD
    gi_wp2_with fail
    refine ⟨trivial, ?_⟩
    refine (callsIn_wide.2 (npush _ p _ NU.out)).mono ?_
    rintro e W1 ⟨rfl, rfl⟩
    gi_wp2_with fail
    refine ⟨trivial, ?_⟩
    refine (callsIn_wide.2 (nmark _ p _ _ NU.out)).mono ?_
    rintro e W1 ⟨rfl, rfl⟩
    gi_wp2_with fail
    refine ⟨trivial, ?_⟩
    refine (callsIn_wide.2 (nset _ p _ _ NU.out)).mono ?_
    rintro e W1 ⟨rfl, rfl⟩
    gi_wp2_with fail
    refine ⟨trivial, ?_⟩
    refine (callsIn_wide.2 (ndrop _ p _ NU.out)).mono ?_
    rintro e W1 ⟨rfl, rfl⟩
    gi_wp2_with fail
    refine ⟨trivial, ?_⟩
    refine (callsIn_wide.2 (nlen _ p NU.out)).mono ?_
    rintro e W1 ⟨rfl, rfl⟩
    gi_wp2_with fail
    refine ⟨trivial, ?_⟩
    refine (callsIn_wide.2 (nfree _ p NU.out)).mono ?_
    rintro e W1 ⟨rfl, rfl⟩
    gi_wp2_with fail
    refine ⟨trivial, ?_⟩
    refine (callsIn_wide.2 (nmost _ p NU.out)).mono ?_
    rintro e W1 ⟨rfl, rfl⟩
    gi_wp2_with fail
    refine ⟨trivial, ?_⟩
    refine (callsIn_wide.2 (npeak _ p NU.out)).mono ?_
    rintro e W1 ⟨rfl, rfl⟩
    gi_wp2_with fail
    refine ⟨trivial, ?_⟩
    refine (callsIn_wide.2 (nref _ p NU.out)).mono ?_
    rintro e W1 ⟨rfl, rfl⟩
    gi_wp2_with fail
    refine ⟨trivial, ?_⟩
    refine (callsIn_wide.2 (npressed _ p NU.out)).mono ?_
    rintro e W1 ⟨rfl, rfl⟩
    have cr := EH.out.r.at 0 (v := .bool false) rfl
    have fr := EH.out.r.free 0
    have hsz := EH.out.fr
    have hw1 := EH.out.r.lt
    have hw3 := ES3.out.r.lt
    have hK2 : (W.setCell ⟨w.heap.size + 1, 0, none⟩ (.bool true)).heap[D]? = some (.deferred (some [])) :=
      (Below.heap_setCell W ⟨w.heap.size + 1, 0, none⟩ (.bool true) D (by show D ≠ w.heap.size + 1; have := HD.out.1; omega)).trans HD.out.2
    have hr2 := EH.out.r.set 0 (.bool true)
    have hp2 := (hr2.putObj hK2 rfl (.deferred none)).at 0 (v := .bool true) rfl
    have hff : Fr [] w ((W.setCell ⟨w.heap.size + 1, 0, none⟩ (.bool true)).putObj D (.deferred none)) := (EH.out.fr.setCell ⟨w.heap.size + 1, 0, none⟩ (.bool true) (.inr (by simp))).putObj D _ (by have := HD.out.1; omega)
    have HZ := Lib.hid (And.intro hK2 (And.intro hp2 hff))
    clear hsz hw1 hw3 hK2 hr2 hp2 hff
    gi_wp2_with fail
    refine ⟨by simp, .inl ⟨_, _, rfl, run_takeDeferred HZ.out.1, ?_⟩⟩
    have hp2 := HZ.out.2.1
    refine ⟨.bool true, ?_, rfl, HZ.out.2.2⟩
    simp [results, Try.results15, go_sem, hp2]
  case hstop => exact fun D c pre W _ _ h => h.elim

theorem four_of {α : Type} {l : List α} (h : l.length = 4) : ∃ a b c d, l = [a, b, c, d] := by
  match l, h with
  | [a, b, c, d], _ => exact ⟨a, b, c, d, rfl⟩
theorem cells34 : Try.prog.cellsOf 34 = 4 := by kernel_rfl
set_option maxRecDepth 100000 in
theorem read_step {w : World} {H : Type} {enc : TypeId × Value → H} {fuel : Nat} {cs : List Value} {x : DataW H × List MemPlace} (h : DataW.trod enc Try.prog w 0 (fun _ => true) true fuel 34 cs = some x) :
    ∃ a b c d : Int, cs = [.int .i64 a, .int .i64 b, .int .i64 c, .int .i64 d] := by
  obtain ⟨xs, m, _, _, hl, hlen, hf⟩ := DataW.trod_struct Try.underlying34 h
  rw [cells34] at hl
  obtain ⟨a, b, c, d, rfl⟩ := four_of hl
  obtain ⟨y0, y1, y2, y3, rfl⟩ := four_of hlen
  obtain ⟨n0, h0, w0⟩ := read_int Try.underlying3 (hf 0 _ rfl)
  obtain ⟨n1, h1, w1⟩ := read_int Try.underlying3 (hf 1 _ rfl)
  obtain ⟨n2, h2, w2⟩ := read_int Try.underlying3 (hf 2 _ rfl)
  obtain ⟨n3, h3, w3⟩ := read_int Try.underlying3 (hf 3 _ rfl)
  have q0 : [a] = [Value.int .i64 n0] := h0
  have q1 : [b] = [Value.int .i64 n1] := h1
  have q2 : [c] = [Value.int .i64 n2] := h2
  have q3 : [d] = [Value.int .i64 n3] := h3
  cases q0; cases q1; cases q2; cases q3
  exact ⟨n0, n1, n2, n3, rfl⟩

namespace queueNil
set_option maxHeartbeats 1000000 in
theorem walk (w : World) (A B V I : Int) : Calls Try.prog 4 #[.agg #[.int .i64 A, .int .i64 B, .int .i64 V, .int .i64 I]] w fun e w' => e = .returned (.bool true) ∧ Fr [] w w' := by
  go_enter Try.func4, Try.ntmps4
  go_wp2_with fail
  have hn0 : Nul (w.alloc (.cells #[.int .i64 A, .int .i64 B, .int .i64 V, .int .i64 I] 34)) none := Or.inl rfl
  (with_reducible refine (empty_any _ none A B V I hn0).mono ?_)
  rintro e w1 ⟨rfl, f1⟩
  have F1 := Lib.hid (((Fr.refl [] w).alloc (.cells #[.int .i64 A, .int .i64 B, .int .i64 V, .int .i64 I] 34)).trans f1 (by simp))
  have hb := f1.blk (Blk.new w #[.int .i64 A, .int .i64 B, .int .i64 V, .int .i64 I] 34) (by simp)
  have c0 := hb.at 0 (v := .int .i64 A) rfl
  have c1 := hb.at 1 (v := .int .i64 B) rfl
  have c2 := hb.at 2 (v := .int .i64 V) rfl
  have c3 := hb.at 3 (v := .int .i64 I) rfl
  have hlt := hb.lt
  have hne : w.heap.size ≠ w1.heap.size := Nat.ne_of_lt hlt
  clear f1 hb
  go_wp2_with fail
  have hz : Nul (w1.alloc (.cells #[.slice none 0 0, .int .i64 0, .int .i64 0, .int .i64 0, .bool false, .int .i64 0, .int .i64 0, .bool false, .int .i64 0, .int .i64 0] 39)) (some ⟨w1.heap.size, 0, none⟩) := .inr ⟨_, rfl, Blk.new _ _ _⟩
  (with_reducible refine (empty_any _ (some ⟨w1.heap.size, 0, none⟩) A B V I hz).mono ?_)
  rintro e w2 ⟨rfl, f2⟩
  have F2 := Lib.hid ((F1.out.alloc _).trans f2 (by simp))
  clear f2 hz
  go_wp2_with fail
  (with_reducible refine (works_any _).mono ?_)
  rintro e w3 ⟨rfl, f3⟩
  have F3 := Lib.hid (F2.out.trans f3 (by simp))
  clear f3
  go_wp2
  go_ret
  exact ⟨rfl, F3.out⟩
set_option maxRecDepth 100000 in
theorem lifted (os : Os) (started : os.Started) (H : Type) (enc : TypeId × Value → H) :
    ReturnsInHanded {} Try.checked os 4 .any (Rows.queueNilSpec.pre6 enc Try.prog Try.f4 Rows.queueNilRow.domain false) (Rows.queueNilSpec.post enc Try.prog Try.f4 false true false false) := by
  refine returnsInHanded_of_change (C := Try.checked) own started (by kernel_rfl) Try.func4
    (ChangeSpec.witness6 (enc := enc) (C := Try.checked) false ⟨#[], #[.agg #[.int .i64 0, .int .i64 0, .int .i64 0, .int .i64 0]], []⟩ 8 (by kernel_rfl) (by kernel_rfl) (by kernel_rfl) (by kernel_rfl)) ?_
  intro W base args ds gs before hval0 hW hcnd _
  have hval : ∀ (j : Nat) t v, Try.f4.params[j]? = some t → args[j]? = some v → Value.okWide Try.prog W .any base t v := hval0
  have hW' := hW
  obtain ⟨p, q, hA, hV, rfl, hfz, hnd⟩ := hW
  rw [Try.params4] at hA hval
  obtain ⟨v0, d0, hargs, rfl, h0⟩ := trodAll_one hA
  obtain ⟨rfl, rfl⟩ := trodVars_none hV
  have : args = #[v0] := by simpa using hargs
  subst this
  obtain ⟨fu0, l0, rfl, e0⟩ := open_agg Try.underlying34 (hval 0 34 v0 rfl rfl) h0
  obtain ⟨A, B, V, I, rfl⟩ := read_step e0
  refine (walk W A B V I).mono fun e W' ⟨he, hg⟩ => ?_
  exact ⟨_, he, law_post (tb := 4) laidOut (by
    rw [Try.params4]; intro t ht; simp at ht
    subst ht
    · exact ⟨by kernel_rfl, of_decide_eq_true (by kernel_rfl)⟩) rfl Try.underlying4 rfl hW' rfl hg⟩
theorem over : Rows.queueNilRow.holds Try.pinned (OpenSpec.ofChange Rows.queueNilSpec) :=
  OpenClaim.holds_of_wide 4 Try.f4 rfl rfl rfl rfl rfl rfl rfl ⟨rfl, rfl, rfl, rfl, rfl⟩ rfl rfl rfl rfl rfl (by kernel_rfl) Try.func4 (by kernel_rfl)
    (of_decide_eq_true (by kernel_rfl)) (by unfold Func.isWrapper; first | (rw [if_pos (by decide +kernel)]; kernel_rfl) | (rw [if_neg (by decide +kernel)]; exact ⟨rfl, rfl⟩))
    (fun os started H enc _ => lifted os started H enc)
/-- The statement QueueNil. -/
theorem proved : Rows.QueueNilSaid := over
#print axioms proved

end queueNil
end Go.Proofs.Ytehdhdocalbfpaa
