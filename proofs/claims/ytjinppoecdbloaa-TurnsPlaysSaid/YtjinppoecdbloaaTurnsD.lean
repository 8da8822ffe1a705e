/-
  (*Turns).Next, where it asks by the closure of next.
-/
import Derived.Test.YtjinppoecdbloaaTurnsC
namespace Go.Proofs.Ytjinppoecdbloaa
open Go.RowKit Go.Shelf
set_option linter.unusedVariables false
attribute [local go_sem] Oper.semAt_some

theorem blk_nc {A B : World} {row : Option Nat} {n : Nat} (hg : A.grownBy B row) (hr : ∀ r, row = some r → n ≤ r ∧ ∃ o : Obj, A.heap[r]? = some o ∧ o.isCells = false) {b : Nat} {c : Array Value} {e : TypeId} (h : Blk A b c e) : Blk B b c e := by
  refine (hg.block b h.lt fun e' => ?_).trans h
  obtain ⟨_, o, ho, hc⟩ := hr b e'.symm
  rw [show A.heap[b]? = _ from h] at ho; cases ho; cases hc
theorem own_nc {A B : World} {row : Option Nat} {n : Nat} (hg : A.grownBy B row) (hr : ∀ r, row = some r → n ≤ r ∧ ∃ o : Obj, A.heap[r]? = some o ∧ o.isCells = false) {e : TypeId} {size k : Nat} {v : Value} {xs : List Value} (h : A.ownsRow 0 e size v k xs) : B.ownsRow 0 e size v k xs := by
  refine h.kept hg ?_
  rcases h.2 with ⟨rfl, _⟩ | ⟨g, cap, cur, rfl, _, hgb, _⟩
  · exact .inl rfl
  · refine .inr fun e' => ?_
    obtain ⟨_, o, ho, hc⟩ := hr g (by simpa [Value.ownBlock] using e'.symm)
    rw [hgb] at ho; cases ho; cases hc
theorem fr_nc {w A B : World} {row : Option Nat} {n : Nat} {S : List Nat} (hg : A.grownBy B row) (hr : ∀ r, row = some r → n ≤ r ∧ ∃ o : Obj, A.heap[r]? = some o ∧ o.isCells = false) (hn : w.heap.size ≤ n) (h : Fr S w A) : Fr S w B :=
  h.grown hg fun k hk => .inr (Nat.le_trans hn (hr k hk).1)

theorem neq59 (f : Fn) (x l : Array Value) (w : World) : (binOp .neq 59 (.func f x l) .nilFunc).run Try.prog w = .ok (.bool true) w := by kernel_rfl
theorem eql55 (f : Fn) (x l : Array Value) (w : World) : (binOp .eql 55 (.func f x l) .nilFunc).run Try.prog w = .ok (.bool false) w := by kernel_rfl

theorem kf_of_fr {S : List Nat} {W W' : World} (B : Nat) (h : Fr S W W') (hs : ∀ k, k ∈ S → ∃ c e, Blk W k c e) : KeepsFrom B W W' :=
  ⟨h.size, fun k o _ hk ho => by
    have hk' : k ∉ S := fun hm => by obtain ⟨c, e, hb⟩ := hs k hm; rw [show W.heap[k]? = _ from hb] at hk; cases hk; cases ho
    exact (h.block k (Array.getElem?_eq_some_iff.1 hk).1 hk').trans hk⟩
theorem own_blk {w : World} {e : TypeId} {size k : Nat} {v : Value} {xs : List Value} (h : w.ownsRow 0 e size v k xs) : ∀ g, g ∈ v.ownBlock.toList → ∃ c e, Blk w g c e := by
  intro g hg
  rcases h.2 with ⟨rfl, _⟩ | ⟨g', cap, cur, rfl, _, hgb, _⟩
  · simp [Value.ownBlock] at hg
  · simp [Value.ownBlock] at hg; subst hg; exact ⟨_, _, hgb⟩
theorem keeps_b {S : List Nat} {w : World} (hS : ∀ k, k ∈ S → k < w.heap.size) (W : World) (l : Nat) (o o' : Obj) (hl : w.heap.size ≤ l) (h : W.heap[l]? = some o) (_ : o.isCells = false) (_ : o.isWalk = false) : KeepsAt S W (W.putObj l o') :=
  fun k hk => World.putObj_heap_other (by have := hS k hk; omega)

theorem Blk.putObj {w : World} {b l : Nat} {c : Array Value} {e : TypeId} (h : Blk w b c e) (o : Obj) (hn : l ≠ b) : Blk (w.putObj l o) b c e := (World.putObj_heap_other hn.symm).trans h

theorem Fr.putObj {S : List Nat} {a w : World} (h : Fr S a w) (l : Nat) (o : Obj) (hl : a.heap.size ≤ l) : Fr S a (w.putObj l o) :=
  h.grown (grownBy_putObj' w l o) (fun k hk => by cases hk; exact .inr hl)

def vals {n : Nat} (l : List (Fin n)) : List Int := l.map fun x => (x.val : Int)
def asks (n s k : Nat) : List Int := (List.range k).map fun j => (pos n s j : Int)
theorem vals_ord (n s k : Nat) (h : 0 < n) : vals (ord n s k h) = asks n s k := by simp [vals, ord, asks]
theorem vals_snoc {n : Nat} (l : List (Fin n)) (x : Fin n) : vals (l ++ [x]) = vals l ++ [(x.val : Int)] := by simp [vals]
theorem vals_len {n : Nat} (l : List (Fin n)) : (vals l).length = l.length := by simp [vals]

/-- The list of who was asked, in its box. -/
def AskedAt (W : World) (pa B : Nat) (xs : List Int) : Prop := ∃ v, Blk W pa #[v] 25 ∧ W.ownsRow 0 3 1 v xs.length (ints xs) ∧ ∀ g, v.ownBlock = some g → B ≤ g

/-- Between two rounds. -/
structure NI (w : World) (bt bw pa n : Nat) (last : Int) (ws : List Int) (bs : List Bool) (fv : Value) (pre : List (Fin n)) (W : World) : Prop where
  t : TurnsAt W bt bw n last ws
  a : AskedAt W pa (w.heap.size + 5) (vals pre)
  b0 : Blk W w.heap.size #[.pointer (some ⟨bt, 0, none⟩)] 23
  b1 : Blk W (w.heap.size + 1) #[fv] 59
  b2 : Blk W (w.heap.size + 2) #[.int .i64 0] 3
  b3 : Blk W (w.heap.size + 3) #[.bool false] 4
  b4 : Blk W (w.heap.size + 4) #[.pointer (some ⟨bt, 0, none⟩)] 23
  fr : Fr [bt, bw, pa] w W
  no : ∀ x, x ∈ pre → isReady bs x.val = false
/-- A round has given the turn. -/
structure NX (w : World) (bt bw pa n : Nat) (ws : List Int) (bs : List Bool) (c : Code) (pre : List (Fin n)) (W : World) : Prop where
  c : c = .ret
  x : ∃ pre' x, pre = pre' ++ [x] ∧ (∀ y, y ∈ pre' → isReady bs y.val = false) ∧ isReady bs x.val = true ∧ TurnsAt W bt bw n (x.val : Nat) (given ws x.val) ∧ Blk W (w.heap.size + 2) #[.int .i64 (x.val : Nat)] 3
  a : AskedAt W pa (w.heap.size + 5) (vals pre)
  b3 : Blk W (w.heap.size + 3) #[.bool true] 4
  fr : Fr [bt, bw, pa] w W
theorem turns_nc {A B : World} {row : Option Nat} {k : Nat} (hg : A.grownBy B row) (hr : ∀ r, row = some r → k ≤ r ∧ ∃ o : Obj, A.heap[r]? = some o ∧ o.isCells = false) {bt bw n : Nat} {last : Int} {ws : List Int} (h : TurnsAt A bt bw n last ws) : TurnsAt B bt bw n last ws :=
  ⟨blk_nc hg hr h.t, blk_nc hg hr h.s, h.len⟩
theorem asked_nc {A B : World} {row : Option Nat} {k : Nat} (hg : A.grownBy B row) (hr : ∀ r, row = some r → k ≤ r ∧ ∃ o : Obj, A.heap[r]? = some o ∧ o.isCells = false) {pa b : Nat} {xs : List Int} (h : AskedAt A pa b xs) : AskedAt B pa b xs := by
  obtain ⟨v, h1, h2, h3⟩ := h
  exact ⟨v, blk_nc hg hr h1, own_nc hg hr h2, h3⟩
theorem ni_own (w : World) (k : Nat) (hk : w.heap.size ≤ k) (bt bw pa n : Nat) (last : Int) (ws : List Int) (bs : List Bool) (fv : Value) : OwnFrom k (NI w bt bw pa n last ws bs fv) :=
  fun s A B row h hg hr => ⟨turns_nc hg hr h.t, asked_nc hg hr h.a, blk_nc hg hr h.b0, blk_nc hg hr h.b1, blk_nc hg hr h.b2, blk_nc hg hr h.b3, blk_nc hg hr h.b4, fr_nc hg hr hk h.fr, h.no⟩
theorem nx_own (w : World) (k : Nat) (hk : w.heap.size ≤ k) (bt bw pa n : Nat) (ws : List Int) (bs : List Bool) (c : Code) : OwnFrom k (NX w bt bw pa n ws bs c) := by
  intro s A B row h hg hr
  obtain ⟨p, x, h1, h2, h3, h4, h5⟩ := h.x
  exact ⟨h.c, ⟨p, x, h1, h2, h3, turns_nc hg hr h4, blk_nc hg hr h5⟩, asked_nc hg hr h.a, blk_nc hg hr h.b3, fr_nc hg hr hk h.fr⟩

/-- What Next answers: the first that is ready, j places on, or none. -/
def NextPost (w : World) (bt bw pa n s : Nat) (last : Int) (ws : List Int) (bs : List Bool) (e : Ending) (w' : World) : Prop :=
  Fr [bt, bw, pa] w w' ∧
  ((∃ j, j < n ∧ (∀ k, k < j → isReady bs (pos n s k) = false) ∧ isReady bs (pos n s j) = true ∧ e = .returned (.tuple #[.int .i64 (pos n s j : Nat), .bool true]) ∧
      TurnsAt w' bt bw n (pos n s j : Nat) (given ws (pos n s j)) ∧ AskedAt w' pa w.heap.size (asks n s (j + 1))) ∨
   ((∀ k, k < n → isReady bs (pos n s k) = false) ∧ e = .returned (.tuple #[.int .i64 (-1), .bool false]) ∧ TurnsAt w' bt bw n last ws ∧ AskedAt w' pa w.heap.size (asks n s n)))

set_option maxRecDepth 100000 in
set_option maxHeartbeats 4000000 in
theorem next_any (w : World) (bt bw pa pr n s : Nat) (last : Int) (ws : List Int) (rv : Value) (bs : List Bool) (hn0 : 0 < n) (hn : n ≤ 16) (hl1 : -1 ≤ last) (hl2 : last < n) (hs : (s : Int) = last + 1) (hwb : ∀ k, k < n → 0 ≤ ws.getD k 0 ∧ ws.getD k 0 ≤ 1000000)
    (ht : TurnsAt w bt bw n last ws) (hpa : Blk w pa #[.slice none 0 0] 25) (hpr : Blk w pr #[rv] 36) (hrv : Rd w rv (bools bs)) (hb : bs.length ≤ 9223372036854775807)
    (hsep : ∀ g o n c, rv = .slice (some ⟨g, o, none⟩) n c → 0 < bs.length → g < w.heap.size ∧ g ≠ bt ∧ g ≠ bw ∧ g ≠ pa) :
    Calls Try.prog 24 #[.pointer (some ⟨bt, 0, none⟩), .func (.func 25) #[] #[.pointer (some ⟨pa, 0, none⟩), .pointer (some ⟨pr, 0, none⟩)]] w (NextPost w bt bw pa n s last ws bs) := by
  have hq := neq59
  have hbt := ht.t.lt
  have hbw := ht.s.lt
  have hpal := hpa.lt
  have hprl := hpr.lt
  have d1 : pr ≠ bt := hpr.ne ht.t (by decide)
  have d2 : pr ≠ bw := hpr.ne ht.s (by decide)
  have d3 : pr ≠ pa := hpr.ne hpa (by decide)
  have d4 : pa ≠ bt := hpa.ne ht.t (by decide)
  have d5 : pa ≠ bw := hpa.ne ht.s (by decide)
  have HN := Lib.hid (And.intro ht (And.intro hpa (And.intro hpr (And.intro hrv hsep))))
  have HS := Lib.hid hs
  have HB := Lib.hid hwb
  clear ht hpa hpr hrv hsep hs hwb
  obtain ⟨fv, hfv⟩ : ∃ fv, Value.func (.func 25) #[] #[.pointer (some ⟨pa, 0, none⟩), .pointer (some ⟨pr, 0, none⟩)] = fv := ⟨_, rfl⟩
  refine (callsIn_wide (n := 9)).1 ?_
  refine callsIn_of_wp_marks Try.func24 rfl trivial ?_ rfl
  simp only [Try.ntmps24, List.size_toArray, List.length_cons, List.length_nil, Nat.reduceAdd, Nat.reduceSub, Array.replicate_succ, Array.replicate_zero, List.push_toArray, List.append_toArray, List.nil_append, List.cons_append]
  have HF := Lib.hid hfv
  clear hfv
  gi_wp2_with (refine ⟨trivial, ?_⟩; gi_at_call 23; refine (callsIn_wide.2 (order_any _ _)).mono ?_; rintro e w' ⟨rfl, rfl⟩)
  obtain ⟨ht, hpa, hpr, hrv, hsep⟩ := HN.out
  generalize hw5 : World.alloc _ _ = w5
  have hz : w5.heap.size = w.heap.size + 5 := by rw [← hw5]; simp
  have k0 : Blk w5 w.heap.size #[.pointer (some ⟨bt, 0, none⟩)] 23 := by rw [← hw5]; exact ((((Blk.new w _ _).alloc _).alloc _).alloc _).alloc _
  have k1 : Blk w5 (w.heap.size + 1) #[fv] 59 := by rw [← hw5, ← HF.out]; exact (((Blk.new_at (by simp) _ _).alloc _).alloc _).alloc _
  have k2 : Blk w5 (w.heap.size + 2) #[.int .i64 0] 3 := by rw [← hw5]; exact ((Blk.new_at (by simp) _ _).alloc _).alloc _
  have k3 : Blk w5 (w.heap.size + 3) #[.bool false] 4 := by rw [← hw5]; exact (Blk.new_at (by simp) _ _).alloc _
  have k4 : Blk w5 (w.heap.size + 4) #[.pointer (some ⟨bt, 0, none⟩)] 23 := by rw [← hw5]; exact Blk.new_at (by simp) _ _
  have kf : Fr [bt, bw, pa] w w5 := by rw [← hw5]; exact (((((Fr.refl _ w).alloc _).alloc _).alloc _).alloc _).alloc _
  have kt : TurnsAt w5 bt bw n last ws := by rw [← hw5]; exact ⟨((((ht.t.alloc _).alloc _).alloc _).alloc _).alloc _, ((((ht.s.alloc _).alloc _).alloc _).alloc _).alloc _, ht.len⟩
  have kp : Blk w5 pa #[.slice none 0 0] 25 := by rw [← hw5]; exact ((((hpa.alloc _).alloc _).alloc _).alloc _).alloc _
  clear hw5
  refine wpIn_rangeFunc_ownG (w0 := w5) rfl (by decide) (gf := 30) (lb := #[.pointer (some ⟨w.heap.size + 4, 0, none⟩)]) rfl trivial (enters_of Try.func30 (by kernel_rfl) rfl)
    (order_stops (9 - 1) (w.heap.size + 4) bt n s last _ hn0 hn hl1 hl2 HS.out w5 k4 kt.t) KeepsAt.trans (keeps_b (by intro k hk; simp at hk; omega)) (Below.refl _ _) (fun _ => rfl)
    (NI w bt bw pa n last ws bs fv) (NX w bt bw pa n ws bs) (ni_own _ _ (by omega) _ _ _ _ _ _ _ _) (fun c => nx_own _ _ (by omega) _ _ _ _ _ _ c)
    ⟨kt, ⟨_, kp, World.ownsRow_nil _ _ _ _, by simp [Value.ownBlock]⟩, k0, k1, k2, k3, k4, kf, by simp⟩
    (fun x => { tmps := #[.pointer (some ⟨bt, 0, none⟩), .func (.func 25) #[] #[.pointer (some ⟨pa, 0, none⟩), .pointer (some ⟨pr, 0, none⟩)], .pointer (some ⟨w.heap.size, 0, none⟩), .pointer (some ⟨w.heap.size + 1, 0, none⟩), .pointer (some ⟨w.heap.size + 2, 0, none⟩), .pointer (some ⟨w.heap.size + 3, 0, none⟩), .int .i64 (x.val : Nat), .func (.func 25) #[] #[.pointer (some ⟨pa, 0, none⟩), .pointer (some ⟨pr, 0, none⟩)], .bool true, .pointer (some ⟨bt, 0, none⟩), .func (.func 30) #[] #[.pointer (some ⟨w.heap.size + 4, 0, none⟩)], .int .i64 (x.val : Nat), undef, undef, undef, undef, undef, undef, undef], defers := [] }) ?assign ?body ?done ?stop
  case assign =>
    intro l x W K hK
    gi_wp2
    exact hK
  case body =>
    rintro l pre x W hI hlt
    obtain ⟨v, ha, hown, hge⟩ := hI.a
    have hxn := x.isLt
    have c0 : W.cell? ⟨w.heap.size, 0, none⟩ = some (.pointer (some ⟨bt, 0, none⟩)) := hI.b0.at 0 rfl
    have c1 : W.cell? ⟨w.heap.size + 1, 0, none⟩ = some (.func (.func 25) #[] #[.pointer (some ⟨pa, 0, none⟩), .pointer (some ⟨pr, 0, none⟩)]) := by rw [HF.out]; exact hI.b1.at 0 rfl
    have hpr' := hI.fr.blk hpr (by simp [d1, d2, d3])
    have hrv' := hI.fr.rd hrv (fun g o n c e hp => by obtain ⟨s1, s2, s3, s4⟩ := hsep g o n c e (by rwa [bools_len] at hp); exact ⟨s1, by simp [s2, s3, s4]⟩)
    have hvl := vals_len pre
    have hask := ask_any W pa pr x.val v rv (vals pre) bs ha hown hpr' hrv'
      (fun g o n c e hp => by obtain ⟨s1, s2, s3, s4⟩ := hsep g o n c e hp; exact ⟨by have := hI.fr.size; omega, s4, fun e' => by have := hge g e'.symm; omega⟩) (by omega) (by omega) hb
    have hob := own_blk hown
    have hbk : ∀ k, k ∈ pa :: v.ownBlock.toList → ∃ c e, Blk W k c e := by
      intro k hk
      rcases List.mem_cons.1 hk with rfl | hk
      · exact ⟨_, _, ha⟩
      · exact hob k hk
    have hnew : ∀ k, k < w.heap.size + 5 → k ≠ pa → k ∉ pa :: v.ownBlock.toList := by
      intro k hk hp hm
      rcases List.mem_cons.1 hm with rfl | hm
      · exact hp rfl
      · have := hge k (by simpa using hm); omega
    have hcore : ∀ (b : Bool) (v1 : Value) (w1 : World), Blk w1 pa #[v1] 25 → w1.ownsRow 0 3 1 v1 ((vals pre).length + 1) (ints (vals pre ++ [(x.val : Int)])) → (v1.ownBlock = v.ownBlock ∨ ∃ g, v1.ownBlock = some g ∧ W.heap.size ≤ g) → Fr (pa :: v.ownBlock.toList) W w1 →
        TurnsAt w1 bt bw n last ws ∧ AskedAt w1 pa (w.heap.size + 5) (vals (pre ++ [x])) ∧ Blk w1 w.heap.size #[.pointer (some ⟨bt, 0, none⟩)] 23 ∧ Blk w1 (w.heap.size + 1) #[fv] 59 ∧ Blk w1 (w.heap.size + 2) #[.int .i64 0] 3 ∧ Blk w1 (w.heap.size + 3) #[.bool false] 4 ∧ Blk w1 (w.heap.size + 4) #[.pointer (some ⟨bt, 0, none⟩)] 23 ∧ Fr [bt, bw, pa] w w1 ∧ KeepsFrom w5.heap.size W w1 ∧ KeepsAt [w.heap.size + 4, bt] W w1 := by
      intro b v1 w1 q1 q2 q3 q4
      refine ⟨⟨q4.blk hI.t.t (hnew bt (by omega) d4.symm), q4.blk hI.t.s (hnew bw (by omega) d5.symm), hI.t.len⟩, ⟨v1, q1, by rw [vals_snoc]; simpa using q2, ?_⟩, q4.blk hI.b0 (hnew _ (by omega) (by omega)), q4.blk hI.b1 (hnew _ (by omega) (by omega)), q4.blk hI.b2 (hnew _ (by omega) (by omega)), q4.blk hI.b3 (hnew _ (by omega) (by omega)), q4.blk hI.b4 (hnew _ (by omega) (by omega)), ?_, kf_of_fr _ q4 hbk, KeepsAt.of_fr q4 ?_⟩
      · intro g hg
        rcases q3 with q3 | ⟨g', q3, q5⟩
        · exact hge g (by rw [← q3]; exact hg)
        · rw [q3] at hg; cases hg; have := hI.b4.lt; omega
      · refine hI.fr.trans q4 ?_
        intro k hk
        rcases List.mem_cons.1 hk with rfl | hm
        · exact .inl (by simp)
        · exact .inr (by have := hge k (by simpa using hm); omega)
      · intro k hk
        simp at hk
        rcases hk with rfl | rfl
        · exact ⟨hI.b4.lt, hnew _ (by omega) (by omega)⟩
        · exact ⟨hI.t.t.lt, hnew _ (by omega) d4.symm⟩
    have HC := Lib.hid hcore
    have HI := Lib.hid hI
    clear hcore hnew hbk hob hge hown ha hrv' hpr' hI hvl
    by_cases hr : isReady bs x.val = true
    · rw [hr] at hask
      have HR := Lib.hid hr
      clear hr
      gi_wp2_with (refine ⟨trivial, ?_⟩; gi_at_call 25; refine (CallsIn.inRound l (callsIn_wide.2 hask)).mono ?_; clear hask; rintro e w1 ⟨rfl, v1, q1, q2, q3, q4⟩; obtain ⟨r1, r2, r3, r4, r5, r6, r7, r8, r9, r10⟩ := HC.out true v1 w1 q1 q2 q3 q4; have g0 : w1.cell? ⟨w.heap.size, 0, none⟩ = some (.pointer (some ⟨bt, 0, none⟩)) := r3.at 0 rfl)
      refine ⟨trivial, (CallsIn.inRound l (callsIn_wide.2 (give_any w1 bt bw n x.val last ws r1 hxn hn HB.out))).mono ?_⟩
      rintro e w2 ⟨rfl, t2, f2, s2⟩
      have u2 := f2.blk r5 (by simp; omega)
      have u3 := f2.blk r6 (by simp; omega)
      have e2 := u2.at 0 (v := .int .i64 0) rfl
      have e3 := u2.free 0
      have e4 := (u3.other ⟨w.heap.size + 2, 0, none⟩ (.int .i64 (x.val : Nat)) (by simp)).at 0 (v := .bool false) rfl
      have e5 := (u3.other ⟨w.heap.size + 2, 0, none⟩ (.int .i64 (x.val : Nat)) (by simp)).free 0
      have hfin : Fr [w.heap.size + 2, w.heap.size + 3] w2 ((w2.setCell ⟨w.heap.size + 2, 0, none⟩ (.int .i64 (x.val : Nat))).setCell ⟨w.heap.size + 3, 0, none⟩ (.bool true)) :=
        ((Fr.refl _ w2).setCell _ _ (.inl (by simp))).setCell _ _ (.inl (by simp))
      have hkf : KeepsFrom w5.heap.size W ((w2.setCell ⟨w.heap.size + 2, 0, none⟩ (.int .i64 (x.val : Nat))).setCell ⟨w.heap.size + 3, 0, none⟩ (.bool true)) :=
        (r9.trans (kf_of_fr _ f2 (by intro k hk; simp at hk; rcases hk with rfl | rfl <;> first | exact ⟨_, _, r1.t⟩ | exact ⟨_, _, r1.s⟩))).trans (kf_of_fr _ hfin (by intro k hk; simp at hk; rcases hk with rfl | rfl <;> first | exact ⟨_, _, u2⟩ | exact ⟨_, _, u3⟩))
      have hnx : NX w bt bw pa n ws bs .ret (pre ++ [x]) ((w2.setCell ⟨w.heap.size + 2, 0, none⟩ (.int .i64 (x.val : Nat))).setCell ⟨w.heap.size + 3, 0, none⟩ (.bool true)) := by
        refine ⟨rfl, ⟨pre, x, rfl, HI.out.no, HR.out, ⟨hfin.blk t2.t (by simp; omega), hfin.blk t2.s (by simp; omega), t2.len⟩, (u2.set 0 (.int .i64 (x.val : Nat))).other _ _ (by simp)⟩, ?_, (u3.other _ _ (by simp)).set 0 _, ?_⟩
        · obtain ⟨vv, a1, a2, a3⟩ := r2
          refine ⟨vv, hfin.blk (f2.blk a1 (by simp [d4, d5])) (by simp; omega), own_fr (own_fr a2 f2 ?_) hfin ?_, a3⟩
          · intro g hg; have := a3 g hg; simp; omega
          · intro g hg; have := a3 g hg; simp; omega
        · exact (r8.trans f2 (by intro k hk; simp at hk; left; simp; omega)).trans hfin (by intro k hk; simp at hk; right; omega)
      have HX := Lib.hid (And.intro hkf hnx)
      clear hkf hnx hfin u2 u3 t2 f2 r1 r2 r3 r4 r5 r6 r7 r8 r9 r10 q1 q2 q3 q4
      gi_wp2
      exact HX.out
    · have hr' : isReady bs x.val = false := by simpa using hr
      rw [hr'] at hask
      have HR := Lib.hid hr'
      clear hr hr'
      gi_wp2_with (refine ⟨trivial, ?_⟩; gi_at_call 25; refine (CallsIn.inRound l (callsIn_wide.2 hask)).mono ?_; clear hask; rintro e w1 ⟨rfl, v1, q1, q2, q3, q4⟩; obtain ⟨r1, r2, r3, r4, r5, r6, r7, r8, r9, r10⟩ := HC.out true v1 w1 q1 q2 q3 q4)
      refine ⟨r9, r10, r1, r2, r3, r4, r5, r6, r7, r8, ?_⟩
      intro y hy
      rcases List.mem_append.1 hy with hy | hy
      · exact HI.out.no y hy
      · simp at hy; subst hy; exact HR.out
  case done =>
    rintro D ys W hD rfl hI hK
    have c2 := hI.b2.at 0 (v := .int .i64 0) rfl
    have c2f := hI.b2.free 0
    have k3 := hI.b3.other ⟨w.heap.size + 2, 0, none⟩ (.int .i64 (-1)) (by simp)
    have c3 := k3.at 0 (v := .bool false) rfl
    have c3f := k3.free 0
    have hfin : Fr [w.heap.size + 2, w.heap.size + 3] W ((W.setCell ⟨w.heap.size + 2, 0, none⟩ (.int .i64 (-1))).setCell ⟨w.heap.size + 3, 0, none⟩ (.bool false)) :=
      ((Fr.refl _ W).setCell _ _ (.inl (by simp))).setCell _ _ (.inl (by simp))
    have hK2 : ((W.setCell ⟨w.heap.size + 2, 0, none⟩ (.int .i64 (-1))).setCell ⟨w.heap.size + 3, 0, none⟩ (.bool false)).heap[D]? = some (.deferred (some [])) :=
      (hfin.block D (Array.getElem?_eq_some_iff.1 hK).1 (by simp; omega)).trans hK
    have m2 := (hI.b2.set 0 (.int .i64 (-1))).other ⟨w.heap.size + 3, 0, none⟩ (.bool false) (by simp)
    have m3 := k3.set 0 (.bool false)
    have HK := Lib.hid (And.intro hK2 (And.intro hfin hI))
    clear hfin hI hK2 hK
    gi_wp2
    obtain ⟨hK, hfin, hI⟩ := HK.out
    refine ⟨by simp, .inl ⟨_, _, rfl, run_takeDeferred hK, ?_⟩⟩
    have hD2 : w.heap.size + 5 ≤ D := by omega
    have p2 := (m2.putObj (.deferred none) (l := D) (by omega)).at 0 (v := .int .i64 (-1)) (by simp)
    have p3 := (m3.putObj (.deferred none) (l := D) (by omega)).at 0 (v := .bool false) (by simp)
    refine ⟨.tuple #[.int .i64 (-1), .bool false], ?_, ?_⟩
    · simp [results, Try.results24, go_sem, p2, p3]
    · refine ⟨(hI.fr.trans hfin (by intro k hk; simp at hk; right; omega)).putObj D _ (by omega), .inr ⟨fun k hk => ?_, rfl, ⟨(hfin.blk hI.t.t (by simp; omega)).putObj _ (by omega), (hfin.blk hI.t.s (by simp; omega)).putObj _ (by omega), hI.t.len⟩, ?_⟩⟩
      · exact hI.no ⟨pos n s k, pos_lt s k hn0⟩ (by simp only [ord, List.mem_map, List.mem_range]; exact ⟨k, hk, rfl⟩)
      · obtain ⟨v, a1, a2, a3⟩ := hI.a
        rw [vals_ord] at a2
        exact ⟨v, (hfin.blk a1 (by simp; omega)).putObj _ (by omega), ownsRow_putObj (own_fr a2 hfin (fun g hg => by have := a3 g hg; simp; omega)) _ hK rfl, fun g hg => by have := a3 g hg; omega⟩
  case stop =>
    rintro D c pre W hD hpre hX hK
    obtain ⟨rfl, ⟨pre', x, rfl, hno, hrd, ht2, hb2⟩, hask, hb3, hfr⟩ := hX
    have hD2 : w.heap.size + 5 ≤ D := by omega
    have hlen := hpre.length_le
    rw [ord_len] at hlen
    have hpe := List.prefix_iff_eq_take.1 hpre
    have hte : ∀ j, j ≤ n → (ord n s n hn0).take j = ord n s j hn0 := by
      intro j hj; simp [ord, ← List.map_take, List.take_range, Nat.min_eq_left hj]
    rw [hte _ hlen] at hpe
    simp only [List.length_append, List.length_cons, List.length_nil, Nat.zero_add] at hpe hlen
    rw [ord_succ] at hpe
    obtain ⟨hp1, hp2⟩ := List.append_inj' hpe rfl
    simp only [List.cons.injEq, and_true] at hp2
    have hK2 := Lib.hid hK
    have p2 := (hb2.putObj (.deferred none) (l := D) (by omega)).at 0 (v := .int .i64 (x.val : Nat)) rfl
    have p3 := (hb3.putObj (.deferred none) (l := D) (by omega)).at 0 (v := .bool true) rfl
    have HH := Lib.hid (And.intro hp1 (And.intro hp2 (And.intro hK (And.intro ht2 (And.intro hask hfr)))))
    clear hp1 hp2 hpe hte hK ht2 hask hfr hb2 hb3
    gi_wp2
    obtain ⟨hp1, hp2, hK, ht2, hask, hfr⟩ := HH.out
    refine ⟨by simp, .inl ⟨_, _, rfl, run_takeDeferred hK, ?_⟩⟩
    refine ⟨.tuple #[.int .i64 (x.val : Nat), .bool true], ?_, ?_⟩
    · simp [results, Try.results24, go_sem, p2, p3]
    · have hxv : x.val = pos n s pre'.length := by rw [hp2]
      refine ⟨hfr.putObj D _ (by omega), .inl ⟨pre'.length, by omega, fun k hk => ?_, by rw [← hxv]; exact hrd, by rw [← hxv], by rw [← hxv]; exact ⟨ht2.t.putObj _ (by omega), ht2.s.putObj _ (by omega), ht2.len⟩, ?_⟩⟩
      · exact hno ⟨pos n s k, pos_lt s k hn0⟩ (by rw [hp1]; simp only [ord, List.mem_map, List.mem_range]; exact ⟨k, hk, rfl⟩)
      · obtain ⟨v, a1, a2, a3⟩ := hask
        have hvv : vals (pre' ++ [x]) = asks n s (pre'.length + 1) := by rw [← vals_ord n s (pre'.length + 1) hn0, ord_succ, ← hp1, ← hp2]
        rw [hvv] at a2
        exact ⟨v, a1.putObj _ (by omega), ownsRow_putObj a2 _ hK rfl, fun g hg => by have := a3 g hg; omega⟩

end Go.Proofs.Ytjinppoecdbloaa
