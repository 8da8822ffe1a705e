/-
  The iterator of package turns, Order, as it is ranged over.
-/
import Derived.Test.YtjinppoecdbloaaTurnsA
import Derived.RangeFuncNested
import Derived.RangeFuncBound
import Derived.RangeFuncCalls
import Derived.RangeFuncLeaves
import Derived.Shelf.Abstract
import Derived.Shelf.RegionOpen
import Derived.OwnWalkIn
import Derived.TacticsInMore
import Derived.LoopNIn
import Derived.LoopIn
import Derived.ScopeJumps
import Derived.WalkMore
namespace Go.Proofs.Ytjinppoecdbloaa
open Go.RowKit Go.Shelf
set_option linter.unusedVariables false
attribute [local go_sem] Oper.semAt_some

/-- What a round keeps: the blocks of S lie as they lay. -/
def KeepsAt (S : List Nat) (W W' : World) : Prop := ∀ k, k ∈ S → W'.heap[k]? = W.heap[k]?
theorem KeepsAt.trans {S : List Nat} {A B C : World} (h : KeepsAt S A B) (k : KeepsAt S B C) : KeepsAt S A C := fun i hi => (k i hi).trans (h i hi)
theorem KeepsAt.blk {S : List Nat} {W W' : World} (h : KeepsAt S W W') {b : Nat} {c : Array Value} {e : TypeId} (hb : Blk W b c e) (hs : b ∈ S) : Blk W' b c e := (h b hs).trans hb
theorem KeepsAt.of_fr {S T : List Nat} {W W' : World} (h : Fr T W W') (hs : ∀ k, k ∈ S → k < W.heap.size ∧ k ∉ T) : KeepsAt S W W' := fun k hk => h.block k (hs k hk).1 (hs k hk).2

/-- The j-th in the order: numbers. -/
def pos (n s j : Nat) : Nat := (s + j) % n
theorem pos_lt {n : Nat} (s j : Nat) (h : 0 < n) : pos n s j < n := Nat.mod_lt _ h
/-- The order, from s on (s: who had the last turn, and 1). -/
def ord (n s k : Nat) (h : 0 < n) : List (Fin n) := (List.range k).map fun j => ⟨pos n s j, pos_lt s j h⟩
theorem ord_succ (n s k : Nat) (h : 0 < n) : ord n s (k + 1) h = ord n s k h ++ [⟨pos n s k, pos_lt s k h⟩] := by simp [ord, List.range_succ]
theorem ord_len (n s k : Nat) (h : 0 < n) : (ord n s k h).length = k := by simp [ord]
theorem ord_prefix (n s : Nat) {k m : Nat} (h : 0 < n) (hk : k ≤ m) : ord n s k h <+: ord n s m h := by
  obtain ⟨d, rfl⟩ := Nat.le.dest hk
  induction d with
  | zero => exact List.prefix_refl _
  | succ d ih => rw [← Nat.add_assoc, ord_succ]; exact (ih (by omega)).trans (List.prefix_append _ _)

/-- Where the walk stands behind j rounds. -/
def cur (n s k : Nat) (last : Int) : Int := if k = 0 then last else (pos n s (k - 1) : Nat)
theorem cur_step (n s k : Nat) (last : Int) (_hn : 0 < n) (hs : (s : Int) = last + 1) : (cur n s k last + 1) % (n : Int) = (pos n s k : Nat) := by
  unfold cur pos
  split
  · subst_vars; rw [Nat.add_zero]; rw [← hs]; simp
  · rename_i hk
    obtain ⟨j, rfl⟩ : ∃ j, k = j + 1 := ⟨k - 1, by omega⟩
    simp only [Nat.add_sub_cancel]
    have : ((s + (j + 1)) % n : Nat) = ((s + j) % n + 1) % n := by rw [← Nat.add_assoc]; simp [Nat.add_mod]
    rw [this]
    simp
theorem cur_bd (n s k : Nat) (last : Int) (_hn : 0 < n) (h1 : -1 ≤ last) (h2 : last < n) : -1 ≤ cur n s k last ∧ cur n s k last < n := by
  unfold cur
  split
  · exact ⟨h1, h2⟩
  · have := pos_lt s (k - 1) _hn; omega
theorem cur_next (n s k : Nat) (last : Int) : cur n s (k + 1) last = (pos n s k : Nat) := by simp [cur]

/-- The jumps' law, the pass at hand for the first way to the label. -/
theorem wp_scope_jumps' {P : Program} {a : Act} {w : World} {Q : Exit → Act → World → Prop} {c rest : Code} (l : Nat) (J : Act → World → Prop) (μ : Act → World → Nat) (hf : findLabel c l = some (.seq .skip rest))
    (first : (∀ a w, J a w → rest.wp P (Exit.jump l J Q) a w) → c.wp P (Exit.jump l J Q) a w)
    (pass : ∀ a w, J a w → rest.wp P (Exit.jump l (fun a' w' => J a' w' ∧ μ a' w' < μ a w) Q) a w) : (Code.scope c).wp P Q a w :=
  wp_scope_jumps l J μ hf (first fun a w h => Code.wp_mono (fun e a w q => by cases e <;> first | exact q | exact ⟨q.1, q.2.1⟩) (pass a w h)) fun a w h => wp_seq (wp_skip (pass a w h))

/-- What the frame of the iterator's function is at the label, behind k rounds. -/
def AtLabel (l bx L : Nat) (i : Int) (a : Act) : Prop := ∃ (u2 u5 u6 u7 u8 u9 u10 u11 u12 u13 u14 u15 u16 u17 u18 u19 u20 u21 u22 u23 u24 u25 u26 u27 u28 u29 u30 u31 u32 u33 u34 u35 u36 u37 : Value), a = { tmps := #[.func (.yield l) #[] #[], .pointer (some ⟨bx, 0, none⟩), u2, .int .i64 i, .int .i64 (L : Nat), u5, u6, u7, u8, u9, u10, u11, u12, u13, u14, u15, u16, u17, u18, u19, u20, u21, u22, u23, u24, u25, u26, u27, u28, u29, u30, u31, u32, u33, u34, u35, u36, u37], defers := [] }

/-- How the iterator ends. -/
def OrdEnd (n s : Nat) (h : 0 < n) (J Jx : List (Fin n) → World → Prop) (e : Ending) (W' : World) : Prop :=
  (∃ v, e = .returned v) ∧ ((∃ ys, ys = ord n s n h ∧ J ys W') ∨ (∃ pre, pre <+: ord n s n h ∧ Jx pre W'))

set_option maxRecDepth 100000 in
set_option maxHeartbeats 4000000 in
theorem order1_in (m l bx bt n s : Nat) (last : Int) (sv : Value) (hn0 : 0 < n) (hn : n ≤ 16) (hl1 : -1 ≤ last) (hl2 : last < n) (hs : (s : Int) = last + 1) (J Jx : List (Fin n) → World → Prop)
    (hY : ∀ pre x W, J pre W → pre.length < n → YieldAt Fence.wide (m - 1) Try.prog l #[.int .i64 (x.val : Nat)] W fun e W' =>
      (e = .returned (.bool true) ∧ J (pre ++ [x]) W' ∧ KeepsAt [bx, bt] W W') ∨ (e = .returned (.bool false) ∧ Jx (pre ++ [x]) W'))
    (W : World) (hbx : Blk W bx #[.pointer (some ⟨bt, 0, none⟩)] 23) (hbt : Blk W bt #[.int .i64 n, .int .i64 last, sv] 27) (hJa : AbidesFrom W.heap.size J) (h0 : J [] W) :
    CallsIn Fence.wide m Try.prog 30 #[.func (.yield l) #[] #[], .pointer (some ⟨bx, 0, none⟩)] W (OrdEnd n s hn0 J Jx) := by
  refine callsIn_of_wp Try.func30 rfl trivial ?_ rfl
  simp only [Try.ntmps30, List.size_toArray, List.length_cons, List.length_nil, Nat.reduceAdd, Nat.reduceSub, Array.replicate_succ, Array.replicate_zero, List.push_toArray, List.append_toArray, List.nil_append, List.cons_append]
  refine wpIn_wide.2 ?_
  refine wp_scope_jumps' 0 (fun a w => ∃ k L, k + (L + 1) = n ∧ AtLabel l bx (L + 1) (cur n s k last) a ∧ J (ord n s k hn0) w ∧ Blk w bx #[.pointer (some ⟨bt, 0, none⟩)] 23 ∧ Blk w bt #[.int .i64 n, .int .i64 last, sv] 27)
    (fun a _ => (intOf (a.tmps.getD 4 undef)).toNat) rfl ?first ?pass
  case first =>
    intro hpass
    have HP := Lib.hid hpass
    clear hpass
    have x0 := hbx.at 0 (v := .pointer (some ⟨bt, 0, none⟩)) rfl
    have t0 := hbt.at 0 (v := .int .i64 n) rfl
    have t1 := hbt.at 1 (v := .int .i64 last) rfl
    have hnz : ((n : Int) == 0) = false := by simp; omega
    go_wp2
    go_quiet (fail)
    go_wp2
    go_step3
    go_step
    go_step
    obtain ⟨L, rfl⟩ : ∃ L, n = L + 1 := ⟨n - 1, by omega⟩
    refine HP.out _ _ ⟨0, L, by omega, ?_, ?_, hbx.drewN _, hbt.drewN _⟩
    · exact ⟨_, _, _, _, _, _, _, _, _, _, _, _, _, _, _, _, _, _, _, _, _, _, _, _, _, _, _, _, _, _, _, _, _, _, rfl⟩
    · exact hJa [] W _ none h0 ⟨rfl, rfl, rfl, Nat.le_refl _, fun _ _ _ => rfl⟩ (by simp)
  case pass =>
    rintro a w ⟨k, L, hk, ⟨u2, u5, u6, u7, u8, u9, u10, u11, u12, u13, u14, u15, u16, u17, u18, u19, u20, u21, u22, u23, u24, u25, u26, u27, u28, u29, u30, u31, u32, u33, u34, u35, u36, u37, rfl⟩, hJ, b1, b2⟩
    have x0 := b1.at 0 (v := .pointer (some ⟨bt, 0, none⟩)) rfl
    have t0 := b2.at 0 (v := .int .i64 n) rfl
    obtain ⟨hc1, hc2⟩ := cur_bd n s k last hn0 hl1 hl2
    have hst := cur_step n s k last hn0 hs
    obtain ⟨x, hx⟩ : ∃ x : Fin n, (⟨pos n s k, pos_lt s k hn0⟩ : Fin n) = x := ⟨_, rfl⟩
    obtain ⟨f, tm, asg, body, hy, hR⟩ := hY (ord n s k hn0) x w hJ (by rw [ord_len]; omega)
    have hst' : (cur n s k last + 1) % (n : Int) = (x.val : Nat) := by rw [hst, ← hx]
    have hnx : cur n s (k + 1) last = (x.val : Nat) := by rw [cur_next, ← hx]
    have HN := Lib.hid hnx
    have HX := Lib.hid hx
    have HR := Lib.hid hR
    have HY := Lib.hid hY
    have HJ := Lib.hid hJa
    clear hx hst hnx hR hY hJa
    generalize cur n s k last = i at *
    refine (wpIn_wide (n := m)).1 ?_
    gi_wp2
    refine ⟨fun h => by simp [Fence.wide] at h, HR.out.mono ?_⟩
    rintro e W3 (⟨rfl, hJ3, hk3⟩ | ⟨rfl, hJx3⟩)
    · have c1 := hk3.blk b1 (by simp)
      have c2 := hk3.blk b2 (by simp)
      cases L with
      | zero =>
        gi_wp2
        change bodyPost _ _ _ .normal _ _
        go_end0
        refine ⟨⟨_, rfl⟩, .inl ⟨_, rfl, ?_⟩⟩
        have hk' : k + 1 = n := by omega
        rw [← HX.out, ← ord_succ, hk'] at hJ3
        exact hJ3
      | succ L =>
        gi_wp2
        refine wpIn_goto ?_
        refine ⟨rfl, ⟨k + 1, L, by omega, ?_, ?_, c1, c2⟩, ?_⟩
        · have hnx := HN.out
          rw [hnx]
          exact ⟨_, _, _, _, _, _, _, _, _, _, _, _, _, _, _, _, _, _, _, _, _, _, _, _, _, _, _, _, _, _, _, _, _, _, rfl⟩
        · rw [← HX.out, ← ord_succ] at hJ3; exact hJ3
        · simp [intOf]; omega
    · gi_wp2
      change bodyPost _ _ _ .normal _ _
      go_end0
      refine ⟨⟨_, rfl⟩, .inr ⟨_, ?_, hJx3⟩⟩
      rw [← HX.out, ← ord_succ]
      exact ord_prefix n s hn0 (by omega)

/-- Order, ranged over. -/
theorem order_stops (m bx bt n s : Nat) (last : Int) (sv : Value) (hn0 : 0 < n) (hn : n ≤ 16) (hl1 : -1 ≤ last) (hl2 : last < n) (hs : (s : Int) = last + 1)
    (w : World) (hbx : Blk w bx #[.pointer (some ⟨bt, 0, none⟩)] 23) (hbt : Blk w bt #[.int .i64 n, .int .i64 last, sv] 27) :
    SeqStopsK Fence.wide m Try.prog 30 #[.pointer (some ⟨bx, 0, none⟩)] (fun x : Fin n => #[.int .i64 (x.val : Nat)]) (KeepsAt [bx, bt]) (fun ys => ys = ord n s n hn0) (fun pre => pre <+: ord n s n hn0) n w :=
  fun l J Jx W hW hJ _ hY h0 => order1_in m l bx bt n s last sv hn0 hn hl1 hl2 hs J Jx hY W ((hW.block bx hbx.lt).trans hbx) ((hW.block bt hbt.lt).trans hbt) hJ h0

/-- Of none, and of a zero one: nothing is told. -/
def Empty (w : World) (p : Option Addr) : Prop := p = none ∨ ∃ b last s, p = some ⟨b, 0, none⟩ ∧ Blk w b #[.int .i64 0, last, s] 27
theorem Empty.mono {w w' : World} {p : Option Addr} (h : Empty w p) (hb : Below w.heap.size w w') : Empty w' p := by
  rcases h with h | ⟨b, l, s, h, hk⟩
  · exact .inl h
  · exact .inr ⟨b, l, s, h, (hb.block b hk.lt).trans hk⟩
theorem order0_in (m l bx : Nat) (p : Option Addr) (W : World) (hbx : Blk W bx #[.pointer p] 23) (hp : Empty W p) :
    CallsIn Fence.wide m Try.prog 30 #[.func (.yield l) #[] #[], .pointer (some ⟨bx, 0, none⟩)] W fun e W' => (∃ v, e = .returned v) ∧ W = W' := by
  refine callsIn_of_wp Try.func30 rfl trivial ?_ rfl
  simp only [Try.ntmps30, List.size_toArray, List.length_cons, List.length_nil, Nat.reduceAdd, Nat.reduceSub, Array.replicate_succ, Array.replicate_zero, List.push_toArray, List.append_toArray, List.nil_append, List.cons_append]
  refine wpIn_wide.2 ?_
  have x0 := hbx.at 0 (v := .pointer p) rfl
  rcases hp with rfl | ⟨b, last, s, rfl, hb⟩
  · go_step3
    go_wp2
    rw [Exit.noGoto_ret]
    refine bodyPost_ret (results_none rfl _ _ _) rfl ?_
    exact ⟨⟨_, rfl⟩, rfl⟩
  · have b0 := hb.at 0 (v := .int .i64 0) rfl
    go_step3
    go_wp2
    rw [Exit.noGoto_ret]
    refine bodyPost_ret (results_none rfl _ _ _) rfl ?_
    exact ⟨⟨_, rfl⟩, rfl⟩
theorem order0_stops (m bx : Nat) (p : Option Addr) (w : World) (hbx : Blk w bx #[.pointer p] 23) (hp : Empty w p) :
    SeqStopsK Fence.wide m Try.prog 30 #[.pointer (some ⟨bx, 0, none⟩)] (fun x : Fin 1 => #[.int .i64 (x.val : Nat)]) (KeepsAt []) (fun ys => ys = []) (fun pre => pre <+: []) 0 w :=
  fun l J Jx W hW _ _ _ h0 => (order0_in m l bx p W ((hW.block bx hbx.lt).trans hbx) (hp.mono hW)).mono fun e W' ⟨h, hw⟩ => ⟨h, .inl ⟨[], rfl, hw ▸ h0⟩⟩

end Go.Proofs.Ytjinppoecdbloaa
