/-
  SendNil: no sender, and a zero one. For every input.
-/
import Derived.Test.YtehdhdocalbfpaaQueueF
import Derived.Test.YtehdhdocalbfpaaQueueNB
namespace Go.Proofs.Ytehdhdocalbfpaa
open Go.RowKit Go.Shelf Go.ChangeShapes Go.WideShapes Go.ChangeAt
set_option linter.unusedVariables false

@[local go_sem] theorem run_store_float {P : Program} {w : World} {m : Mode} (a : Addr) (k : FloatKind) (b : Nat) : (store a (.float k b) m).run P w = stored P w a (.float k b) m := run_store P w a _ m rfl
/-- Nil, or zero. -/
def Nus (w : World) (p : Option Addr) : Prop := p = none ∨ ∃ z, p = some ⟨z, 0, none⟩ ∧ Blk w z #[.int .i64 0, .int .i64 0, .int .u64 0, .pointer none, .slice none 0 0] 71
theorem Nus.fr {w w' : World} {p : Option Addr} (h : Nus w p) (f : Fr [] w w') : Nus w' p := by
  rcases h with h | ⟨z, h, hb⟩
  · exact .inl h
  · exact .inr ⟨z, h, f.blk hb (by simp)⟩
theorem sthere (w : World) (p : Option Addr) (h : Nus w p) : Calls Try.prog 55 #[.pointer p] w fun e w' => e = .returned (.bool false) ∧ w = w' := by
  rcases h with rfl | ⟨z, rfl, hb⟩
  · go_enter Try.func55, Try.ntmps55
    go_wp2
    go_ret
    exact ⟨rfl, rfl⟩
  · have c1 := hb.at 3 (v := .pointer none) rfl
    clear hb
    go_enter Try.func55, Try.ntmps55
    go_wp2
    go_ret
    exact ⟨rfl, rfl⟩
theorem eql103 (w : World) : (binOp .eql 103 .nilFunc .nilFunc).run Try.prog w = .ok (.bool true) w := by kernel_rfl
theorem neq103 (w : World) : (binOp .neq 103 .nilFunc .nilFunc).run Try.prog w = .ok (.bool false) w := by kernel_rfl
set_option maxRecDepth 100000 in
theorem sfree (w : World) (p : Option Addr) (h : Nus w p) : Calls Try.prog 18 #[.pointer p] w fun e w' => e = .returned (.int .i64 0) ∧ w = w' := by
  have H0 := Lib.hid (sthere w p h)
  have hq := neq103
  clear h
  go_enter Try.func18, Try.ntmps18
  go_wp2_with (go_at_call 55; refine H0.out.mono ?_; rintro e w1 ⟨rfl, rfl⟩)
  go_ret
  exact ⟨rfl, rfl⟩
set_option maxRecDepth 100000 in
theorem sacked (w : World) (p : Option Addr) (h : Nus w p) : Calls Try.prog 21 #[.pointer p] w fun e w' => e = .returned (.int .u64 0) ∧ w = w' := by
  have H0 := Lib.hid (sthere w p h)
  have hq := neq103
  clear h
  go_enter Try.func21, Try.ntmps21
  go_wp2_with (go_at_call 55; refine H0.out.mono ?_; rintro e w1 ⟨rfl, rfl⟩)
  go_ret
  exact ⟨rfl, rfl⟩
set_option maxRecDepth 100000 in
theorem ssent (w : World) (p : Option Addr) (h : Nus w p) : Calls Try.prog 23 #[.pointer p] w fun e w' => e = .returned (.int .u64 0) ∧ w = w' := by
  have H0 := Lib.hid (sthere w p h)
  have hq := neq103
  clear h
  go_enter Try.func23, Try.ntmps23
  go_wp2_with (go_at_call 55; refine H0.out.mono ?_; rintro e w1 ⟨rfl, rfl⟩)
  go_ret
  exact ⟨rfl, rfl⟩
set_option maxRecDepth 100000 in
theorem ssentat (w : World) (p : Option Addr) (h : Nus w p) : Calls Try.prog 34 #[.pointer p] w fun e w' => e = .returned (.slice none 0 0) ∧ w = w' := by
  have H0 := Lib.hid (sthere w p h)
  have hq := neq103
  clear h
  go_enter Try.func34, Try.ntmps34
  go_wp2_with (go_at_call 55; refine H0.out.mono ?_; rintro e w1 ⟨rfl, rfl⟩)
  go_ret
  exact ⟨rfl, rfl⟩
set_option maxRecDepth 100000 in
theorem sack (w : World) (p : Option Addr) (i : Int) (h : Nus w p) : Calls Try.prog 24 #[.pointer p, .int .u64 i] w fun e w' => e = .returned (.bool false) ∧ w = w' := by
  have H0 := Lib.hid (sthere w p h)
  have hq := neq103
  clear h
  go_enter Try.func24, Try.ntmps24
  go_wp2_with (go_at_call 55; refine H0.out.mono ?_; rintro e w1 ⟨rfl, rfl⟩)
  go_ret
  exact ⟨rfl, rfl⟩
set_option maxRecDepth 100000 in
theorem sway (w : World) (p : Option Addr) (i : Int) (h : Nus w p) : Calls Try.prog 59 #[.pointer p, .int .u32 i] w fun e w' => e = .returned (.nilFunc) ∧ w = w' := by
  have H0 := Lib.hid (sthere w p h)
  have hq := neq103
  clear h
  go_enter Try.func59, Try.ntmps59
  go_wp2_with (go_at_call 55; refine H0.out.mono ?_; rintro e w1 ⟨rfl, rfl⟩)
  go_ret
  exact ⟨rfl, rfl⟩
set_option maxRecDepth 100000 in
theorem shas (w : World) (p : Option Addr) (i : Int) (h : Nus w p) : Calls Try.prog 19 #[.pointer p, .int .u32 i] w fun e w' => e = .returned (.bool false) ∧ w = w' := by
  have H0 := Lib.hid (sway w p i h)
  have hq := neq103
  clear h
  go_enter Try.func19, Try.ntmps19
  go_wp2_with (go_at_call 59; refine H0.out.mono ?_; rintro e w1 ⟨rfl, rfl⟩)
  go_ret
  exact ⟨rfl, rfl⟩
theorem sbox (w : World) (p : Option Addr) (h : Nus w p) : Calls Try.prog 26 #[.pointer p] w fun e w' => e = .returned (.slice none 0 0) ∧ Fr [] w w' := by
  have H0 := Lib.hid (sthere _ p (h.fr ((Fr.refl [] w).alloc (.cells #[.slice none 0 0] 42))))
  clear h
  go_enter Try.func26, Try.ntmps26
  go_wp2_with fail
  (with_reducible refine H0.out.mono ?_)
  rintro e w1 ⟨rfl, rfl⟩
  go_wp2
  go_ret
  exact ⟨rfl, (Fr.refl _ _).alloc _⟩
theorem soffer (w : World) (p : Option Addr) (k o f n x y c : Int) (s : Nat) (h : Nus w p) : Calls Try.prog 17 #[.pointer p, .agg #[.int .u8 k, .int .u32 o, .int .u32 f, .int .u32 n, .int .i32 x, .int .i32 y, .int .u32 c, .float .f64 s]] w fun e w' => e = .returned (.tuple #[.int .u64 0, .int .i64 1]) ∧ Fr [] w w' := by
  have H0 := Lib.hid (sthere _ p (h.fr ((Fr.refl [] w).alloc (.cells #[.int .u8 k, .int .u32 o, .int .u32 f, .int .u32 n, .int .i32 x, .int .i32 y, .int .u32 c, .float .f64 s] 56))))
  clear h
  go_enter Try.func17, Try.ntmps17
  go_wp2_with fail
  (with_reducible refine H0.out.mono ?_)
  rintro e w1 ⟨rfl, rfl⟩
  go_wp2
  go_ret2
  exact ⟨rfl, (Fr.refl _ _).alloc _⟩
set_option maxRecDepth 100000 in

theorem snext (w : World) (p : Option Addr) (i : Int) (h : Nus w p) : Calls Try.prog 20 #[.pointer p, .int .u32 i] w fun e w' => e = .returned (.tuple #[.int .u64 0, .agg #[.int .u8 0, .int .u32 0, .int .u32 0, .int .u32 0, .int .i32 0, .int .i32 0, .int .u32 0, .float .f64 0], .bool false]) ∧ Fr [] w w' := by
  have hq := eql103
  have H0 := Lib.hid (fun cs => sway _ p i (h.fr ((Fr.refl [] w).alloc (.cells cs 56))))
  clear h
  go_enter Try.func20, Try.ntmps20
  go_wp2_with fail
  (with_reducible refine (H0.out _).mono ?_)
  rintro e w1 ⟨rfl, rfl⟩
  go_wp2
  refine bodyPost_ret (v := .tuple #[.int .u64 0, .agg #[.int .u8 0, .int .u32 0, .int .u32 0, .int .u32 0, .int .i32 0, .int .i32 0, .int .u32 0, .float .f64 0], .bool false]) (by simp [results, Try.results20, go_sem]) rfl ⟨rfl, (Fr.refl _ _).alloc _⟩
theorem eql56 (w : World) : (binOp .eql 56 (.agg #[.int .u8 0, .int .u32 0, .int .u32 0, .int .u32 0, .int .i32 0, .int .i32 0, .int .u32 0, .float .f64 0]) (.agg #[.int .u8 0, .int .u32 0, .int .u32 0, .int .u32 0, .int .i32 0, .int .i32 0, .int .u32 0, .float .f64 0])).run Try.prog w = .ok (.bool true) w := by kernel_rfl
set_option maxRecDepth 100000 in
set_option maxHeartbeats 1000000 in
theorem nothing_any (w : World) (p : Option Addr) (kd : Int) (k o f n x y c : Int) (s : Nat) (nw nm : Int) (h : Nus w p) : Calls Try.prog 25 #[.pointer p, .agg #[.int .i64 kd, .int .u8 k, .int .u32 o, .int .u32 f, .int .u32 n, .int .i32 x, .int .i32 y, .int .u32 c, .float .f64 s, .int .u32 nw, .int .u64 nm]] w fun e w' => e = .returned (.bool true) ∧ Fr [] w w' := by
  have hq := eql56
  have HP := Lib.hid h
  clear h
  go_enter Try.func25, Try.ntmps25
  go_wp2_with fail
  have fA : Fr [] w (w.alloc (.cells #[.int .i64 kd, .int .u8 k, .int .u32 o, .int .u32 f, .int .u32 n, .int .i32 x, .int .i32 y, .int .u32 c, .float .f64 s, .int .u32 nw, .int .u64 nm] 58)) := (Fr.refl [] w).alloc _
  have H1 := Lib.hid (soffer _ p k o f n x y c s (HP.out.fr fA))
  have FA := Lib.hid (And.intro fA (Blk.new w #[.int .i64 kd, .int .u8 k, .int .u32 o, .int .u32 f, .int .u32 n, .int .i32 x, .int .i32 y, .int .u32 c, .float .f64 s, .int .u32 nw, .int .u64 nm] 58))
  clear fA
  (with_reducible refine H1.out.mono ?_)
  rintro e w1 ⟨rfl, f1⟩
  have F1 := Lib.hid (And.intro (FA.out.1.trans f1 (by simp)) (f1.blk FA.out.2 (by simp)))
  have c9 := F1.out.2.at 9 (v := .int .u32 nw) rfl
  clear f1
  go_wp2_with fail
  have H2 := Lib.hid (snext w1 p nw (HP.out.fr F1.out.1))
  (with_reducible refine H2.out.mono ?_)
  rintro e w2 ⟨rfl, f2⟩
  have F2 := Lib.hid (And.intro (F1.out.1.trans f2 (by simp)) (f2.blk F1.out.2 (by simp)))
  have d9 := F2.out.2.at 9 (v := .int .u32 nw) rfl
  have d10 := F2.out.2.at 10 (v := .int .u64 nm) rfl
  have hlt := F2.out.2.lt
  have hne : w.heap.size ≠ w2.heap.size := Nat.ne_of_lt hlt
  clear f2 c9
  have H3 := Lib.hid (fun o => HP.out.fr (F2.out.1.trans ((Fr.refl [] w2).alloc (.cells o 56)) (by simp)))
  go_wp2_with (first
    | (go_at_call 19; refine (shas _ p nw (H3.out _)).mono ?_; rintro e w9 ⟨rfl, rfl⟩)
    | (go_at_call 24; refine (sack _ p nm (H3.out _)).mono ?_; rintro e w9 ⟨rfl, rfl⟩)
    | (go_at_call 18; refine (sfree _ p (H3.out _)).mono ?_; rintro e w9 ⟨rfl, rfl⟩)
    | (go_at_call 21; refine (sacked _ p (H3.out _)).mono ?_; rintro e w9 ⟨rfl, rfl⟩)
    | (go_at_call 23; refine (ssent _ p (H3.out _)).mono ?_; rintro e w9 ⟨rfl, rfl⟩))
  have F3 := Lib.hid (F2.out.1.trans ((Fr.refl [] w2).alloc (.cells #[.int .u8 0, .int .u32 0, .int .u32 0, .int .u32 0, .int .i32 0, .int .i32 0, .int .u32 0, .float .f64 0] 56)) (by simp))
  (with_reducible refine (sbox _ p (H3.out _)).mono ?_)
  rintro e w3 ⟨rfl, f3⟩
  have F4 := Lib.hid (F3.out.trans f3 (by simp))
  clear f3
  go_wp2_with fail
  (with_reducible refine (ssentat _ p (HP.out.fr F4.out)).mono ?_)
  rintro e w4 ⟨rfl, rfl⟩
  go_wp2
  go_ret
  exact ⟨rfl, F4.out⟩
theorem eleven_of {α : Type} {l : List α} (h : l.length = 11) : ∃ a b c d e f g h' i j k, l = [a, b, c, d, e, f, g, h', i, j, k] := by
  match l, h with
  | [a, b, c, d, e, f, g, h', i, j, k], _ => exact ⟨a, b, c, d, e, f, g, h', i, j, k, rfl⟩

theorem cells58 : Try.prog.cellsOf 58 = 11 := by kernel_rfl
theorem read_one {w : World} {H : Type} {enc : TypeId × Value → H} {fuel : Nat} {t : TypeId} {k : IntKind} {v : Value} {x : DataW H × List MemPlace} (ht : Try.prog.underlying t = some (.int k)) (h : DataW.trod enc Try.prog w 0 (fun _ => true) true fuel t [v] = some x) : ∃ n : Int, v = .int k n := by
  obtain ⟨n, h1, _⟩ := read_int ht h
  exact ⟨n, by simpa using h1⟩
theorem read_flo {w : World} {H : Type} {enc : TypeId × Value → H} {fuel : Nat} {t : TypeId} {k : FloatKind} {v : Value} {x : DataW H × List MemPlace} (ht : Try.prog.underlying t = some (.float k)) (h : DataW.trod enc Try.prog w 0 (fun _ => true) true fuel t [v] = some x) : ∃ n : Nat, v = .float k n := by
  cases fuel with
  | zero => simp [DataW.trod] at h
  | succ n =>
    unfold DataW.trod at h
    rw [ht] at h
    split at h <;> simp_all
set_option maxRecDepth 100000 in
theorem read_event {w : World} {H : Type} {enc : TypeId × Value → H} {fuel : Nat} {a0 a1 a2 a3 a4 a5 a6 a7 : Value} {x : DataW H × List MemPlace} (h : DataW.trod enc Try.prog w 0 (fun _ => true) true fuel 56 [a0, a1, a2, a3, a4, a5, a6, a7] = some x) :
    ∃ (k o f n x y c : Int) (s : Nat), [a0, a1, a2, a3, a4, a5, a6, a7] = [.int .u8 k, .int .u32 o, .int .u32 f, .int .u32 n, .int .i32 x, .int .i32 y, .int .u32 c, .float .f64 s] := by
  obtain ⟨xs, m, _, _, hl, hlen, hf⟩ := DataW.trod_struct Try.underlying56 h
  have hlen : xs.length = 7 := hlen
  match xs, hlen with
  | [y0, y1, y2, y3, y4, y5, y6], _ =>
    obtain ⟨n0, rfl⟩ := read_one (v := a0) Try.underlying50 (hf 0 _ rfl)
    obtain ⟨n1, rfl⟩ := read_one (v := a1) Try.underlying51 (hf 1 _ rfl)
    obtain ⟨n2, rfl⟩ := read_one (v := a2) Try.underlying51 (hf 2 _ rfl)
    obtain ⟨n3, rfl⟩ := read_one (v := a3) Try.underlying51 (hf 3 _ rfl)
    have h4 := hf 4 _ rfl
    obtain ⟨n6, rfl⟩ := read_one (v := a6) Try.underlying51 (hf 5 _ rfl)
    obtain ⟨n7, rfl⟩ := read_flo (v := a7) Try.underlying54 (hf 6 _ rfl)
    obtain ⟨zs, m', _, _, hl', hlen', hf'⟩ := DataW.trod_struct Try.underlying53 h4
    have hlen' : zs.length = 2 := hlen'
    match zs, hlen' with
    | [z0, z1], _ =>
      obtain ⟨n4, rfl⟩ := read_one (v := a4) Try.underlying21 (hf' 0 _ rfl)
      obtain ⟨n5, rfl⟩ := read_one (v := a5) Try.underlying21 (hf' 1 _ rfl)
      exact ⟨n0, n1, n2, n3, n4, n5, n6, n7, rfl⟩
set_option maxRecDepth 100000 in
theorem read_sstep {w : World} {H : Type} {enc : TypeId × Value → H} {fuel : Nat} {cs : List Value} {x : DataW H × List MemPlace} (h : DataW.trod enc Try.prog w 0 (fun _ => true) true fuel 58 cs = some x) :
    ∃ (kd k o f n x y c : Int) (s : Nat) (nw nm : Int), cs = [.int .i64 kd, .int .u8 k, .int .u32 o, .int .u32 f, .int .u32 n, .int .i32 x, .int .i32 y, .int .u32 c, .float .f64 s, .int .u32 nw, .int .u64 nm] := by
  obtain ⟨xs, m, _, _, hl, hlen, hf⟩ := DataW.trod_struct Try.underlying58 h
  rw [cells58] at hl
  obtain ⟨b0, a0, a1, a2, a3, a4, a5, a6, a7, b1, b2, rfl⟩ := eleven_of hl
  have hlen : xs.length = 4 := hlen
  match xs, hlen with
  | [y0, y1, y2, y3], _ =>
    obtain ⟨n0, rfl⟩ := read_one (v := b0) Try.underlying3 (hf 0 _ rfl)
    obtain ⟨k, o, f, n, x, y, c, s, he⟩ := read_event (a0 := a0) (a1 := a1) (a2 := a2) (a3 := a3) (a4 := a4) (a5 := a5) (a6 := a6) (a7 := a7) (hf 1 _ rfl)
    obtain ⟨n1, rfl⟩ := read_one (v := b1) Try.underlying51 (hf 2 _ rfl)
    obtain ⟨n2, rfl⟩ := read_one (v := b2) Try.underlying41 (hf 3 _ rfl)
    cases he
    exact ⟨n0, k, o, f, n, x, y, c, s, n1, n2, rfl⟩

namespace sendNil
set_option maxRecDepth 100000 in
set_option maxHeartbeats 1000000 in
theorem walk (w : World) (kd : Int) (k o f n x y c : Int) (s : Nat) (nw nm : Int) : Calls Try.prog 6 #[.agg #[.int .i64 kd, .int .u8 k, .int .u32 o, .int .u32 f, .int .u32 n, .int .i32 x, .int .i32 y, .int .u32 c, .float .f64 s, .int .u32 nw, .int .u64 nm]] w fun e w' => e = .returned (.bool true) ∧ Fr [] w w' := by
  go_enter Try.func6, Try.ntmps6
  go_wp2_with fail
  have hn0 : Nus (w.alloc (.cells #[.int .i64 kd, .int .u8 k, .int .u32 o, .int .u32 f, .int .u32 n, .int .i32 x, .int .i32 y, .int .u32 c, .float .f64 s, .int .u32 nw, .int .u64 nm] 58)) none := Or.inl rfl
  (with_reducible refine (nothing_any _ none kd k o f n x y c s nw nm hn0).mono ?_)
  rintro e w1 ⟨rfl, f1⟩
  have F1 := Lib.hid (((Fr.refl [] w).alloc (.cells #[.int .i64 kd, .int .u8 k, .int .u32 o, .int .u32 f, .int .u32 n, .int .i32 x, .int .i32 y, .int .u32 c, .float .f64 s, .int .u32 nw, .int .u64 nm] 58)).trans f1 (by simp))
  have hb := f1.blk (Blk.new w #[.int .i64 kd, .int .u8 k, .int .u32 o, .int .u32 f, .int .u32 n, .int .i32 x, .int .i32 y, .int .u32 c, .float .f64 s, .int .u32 nw, .int .u64 nm] 58) (by simp)
  have c0 := hb.at 0 (v := .int .i64 kd) rfl
  have c1 := hb.at 1 (v := .int .u8 k) rfl
  have c2 := hb.at 2 (v := .int .u32 o) rfl
  have c3 := hb.at 3 (v := .int .u32 f) rfl
  have c4 := hb.at 4 (v := .int .u32 n) rfl
  have c5 := hb.at 5 (v := .int .i32 x) rfl
  have c6 := hb.at 6 (v := .int .i32 y) rfl
  have c7 := hb.at 7 (v := .int .u32 c) rfl
  have c8 := hb.at 8 (v := .float .f64 s) rfl
  have c9 := hb.at 9 (v := .int .u32 nw) rfl
  have c10 := hb.at 10 (v := .int .u64 nm) rfl
  have hlt := hb.lt
  have hne : w.heap.size ≠ w1.heap.size := Nat.ne_of_lt hlt
  clear f1 hb
  go_wp2_with fail
  have hz : Nus (w1.alloc (.cells #[.int .i64 0, .int .i64 0, .int .u64 0, .pointer none, .slice none 0 0] 71)) (some ⟨w1.heap.size, 0, none⟩) := .inr ⟨_, rfl, Blk.new _ _ _⟩
  (with_reducible refine (nothing_any _ (some ⟨w1.heap.size, 0, none⟩) kd k o f n x y c s nw nm hz).mono ?_)
  rintro e w2 ⟨rfl, f2⟩
  have F2 := Lib.hid ((F1.out.alloc _).trans f2 (by simp))
  clear f2 hz
  go_wp2
  go_ret
  exact ⟨rfl, F2.out⟩
set_option maxRecDepth 100000 in
theorem lifted (os : Os) (started : os.Started) (H : Type) (enc : TypeId × Value → H) :
    ReturnsInHanded {} Try.checked os 6 .any (Rows.sendNilSpec.pre6 enc Try.prog Try.f6 Rows.sendNilRow.domain false) (Rows.sendNilSpec.post enc Try.prog Try.f6 false true false false) := by
  refine returnsInHanded_of_change (C := Try.checked) own started (by kernel_rfl) Try.func6
    (ChangeSpec.witness6 (enc := enc) (C := Try.checked) false ⟨#[], #[.agg #[.int .i64 0, .int .u8 0, .int .u32 0, .int .u32 0, .int .u32 0, .int .i32 0, .int .i32 0, .int .u32 0, .float .f64 0, .int .u32 0, .int .u64 0]], []⟩ 10 (by kernel_rfl) (by kernel_rfl) (by kernel_rfl) (by kernel_rfl)) ?_
  intro W base args ds gs before hval0 hW hcnd _
  have hval : ∀ (j : Nat) t v, Try.f6.params[j]? = some t → args[j]? = some v → Value.okWide Try.prog W .any base t v := hval0
  have hW' := hW
  obtain ⟨p, q, hA, hV, rfl, hfz, hnd⟩ := hW
  rw [Try.params6] at hA hval
  obtain ⟨v0, d0, hargs, rfl, h0⟩ := trodAll_one hA
  obtain ⟨rfl, rfl⟩ := trodVars_none hV
  have : args = #[v0] := by simpa using hargs
  subst this
  obtain ⟨fu0, l0, rfl, e0⟩ := open_agg Try.underlying58 (hval 0 58 v0 rfl rfl) h0
  obtain ⟨kd, k, o, f, n, x, y, c, s, nw, nm, rfl⟩ := read_sstep e0
  refine (walk W kd k o f n x y c s nw nm).mono fun e W' ⟨he, hg⟩ => ?_
  exact ⟨_, he, law_post (tb := 4) laidOut (by
    rw [Try.params6]; intro t ht; simp at ht
    subst ht
    · exact ⟨by kernel_rfl, of_decide_eq_true (by kernel_rfl)⟩) rfl Try.underlying4 rfl hW' rfl hg⟩
theorem over : Rows.sendNilRow.holds Try.pinned (OpenSpec.ofChange Rows.sendNilSpec) :=
  OpenClaim.holds_of_wide 6 Try.f6 rfl rfl rfl rfl rfl rfl rfl ⟨rfl, rfl, rfl, rfl, rfl⟩ rfl rfl rfl rfl rfl (by kernel_rfl) Try.func6 (by kernel_rfl)
    (of_decide_eq_true (by kernel_rfl)) (by unfold Func.isWrapper; first | (rw [if_pos (by decide +kernel)]; kernel_rfl) | (rw [if_neg (by decide +kernel)]; exact ⟨rfl, rfl⟩))
    (fun os started H enc _ => lifted os started H enc)
/-- The statement SendNil. -/
theorem proved : Rows.SendNilSaid := over
#print axioms proved

end sendNil

end Go.Proofs.Ytehdhdocalbfpaa
