/-
  between: the numbers from one to another, told one by one.
-/
import Derived.Test.YthagbhiblncpkaaCellH
import Derived.Test.YthagbhiblncpkaaCellO
namespace Go.Proofs.Ythagbhiblncpkaa
open Go.RowKit Go.Shelf
set_option linter.unusedVariables false
attribute [local go_sem] Oper.semAt_some

/-- A wide fence has room for whatever. -/
theorem yield_lv {n n' : Nat} {P : Program} {l : Nat} {args : Array Value} {W : World} {R : Ending → World → Prop} (h : YieldAt Fence.wide n P l args W R) : YieldAt Fence.wide n' P l args W R := by
  obtain ⟨fn, tmps, assign, body, hy, hR⟩ := h
  exact ⟨fn, tmps, assign, body, hy, hR.1, fun c cs _ => hR.2 c cs (room_wide _)⟩
theorem yield_in {n l' : Nat} {P : Program} {l : Nat} {args : Array Value} {W : World} {R : Ending → World → Prop} (h : YieldAt Fence.wide n P l args W R) : YieldAt (Fence.wide.inRound l') n P l args W R := by
  obtain ⟨fn, tmps, assign, body, hy, hR⟩ := h
  exact ⟨fn, tmps, assign, body, hy, hR⟩

/-- The numbers from a to b. -/
def upTo (a b : Int) : List Int := (List.range (b + 1 - a).toNat).map fun (k : Nat) => a + (k : Int)
theorem upTo_len (a b : Int) : (upTo a b).length = (b + 1 - a).toNat := by simp [upTo]
theorem upTo_take (a b : Int) (i : Nat) (h : i < (b + 1 - a).toNat) : (upTo a b).take (i + 1) = (upTo a b).take i ++ [a + (i : Int)] := by
  rw [List.take_succ_eq_append_getElem (by rw [upTo_len]; exact h)]
  simp [upTo]
def intArg (x : Int) : Array Value := #[.int .i32 x]
def Ends (bf bt : Nat) (a b : Int) (W : World) : Prop := Blk W bf #[.int .i32 a] 21 ∧ Blk W bt #[.int .i32 b] 21
theorem between_any (w : World) (a b : Int) : Calls Try.prog 42 #[.int .i32 a, .int .i32 b] w fun e w' => e = .returned (.func (.func 46) #[] #[.pointer (some ⟨w.heap.size, 0, none⟩), .pointer (some ⟨w.heap.size + 1, 0, none⟩)]) ∧ Ends w.heap.size (w.heap.size + 1) a b w' ∧ Fr [] w w' := by
  have h0 := (Blk.new w #[.int .i32 a] 21).alloc (.cells #[.int .i32 b] 21)
  have h1 := Blk.new_at (w := w.alloc (.cells #[.int .i32 a] 21)) (k := w.heap.size + 1) (by simp) #[.int .i32 b] 21
  have HH := Lib.hid (And.intro (And.intro h0 h1) (((Fr.refl [] w).alloc (.cells #[.int .i32 a] 21)).alloc (.cells #[.int .i32 b] 21)))
  clear h0 h1
  go_enter Try.func42, Try.ntmps42
  go_wp2
  go_ret
  exact ⟨rfl, HH.out.1, HH.out.2⟩
set_option maxRecDepth 100000 in
theorem between_tells (m bf bt B : Nat) (ts : List TypeId) (hts : 21 ∈ ts) (a b : Int) (ha : I32 a) (hb : -2147483648 ≤ b ∧ b < 2147483647) :
    Tells Fence.wide m Try.prog 46 #[.pointer (some ⟨bf, 0, none⟩), .pointer (some ⟨bt, 0, none⟩)] intArg [] (Kps ts B)
      (fun xs => xs = upTo a b) (fun pre => pre <+: upTo a b) (upTo a b).length (Ends bf bt a b) (Ends bf bt a b) := by
  intro l J Jx W hW hJ hJx hY h0
  unfold I32 at ha
  refine callsIn_of_wp Try.func46 rfl trivial ?_ rfl
  simp only [Try.ntmps46, List.size_toArray, List.length_cons, List.length_nil, Nat.reduceAdd, Nat.reduceSub, Array.replicate_succ, Array.replicate_zero, List.push_toArray, List.append_toArray, List.nil_append, List.cons_append]
  refine wpIn_wide.2 ?_
  have c0 := hW.1.at 0 (v := .int .i32 a) rfl
  obtain ⟨n, hn⟩ : ∃ n, n = (b + 1 - a).toNat := ⟨_, rfl⟩
  have hn1 : (n : Int) ≤ b + 1 - a ∨ n = 0 := by omega
  have hn2 : b + 1 - a ≤ (n : Int) := by omega
  have HN := Lib.hid hn
  have HY := Lib.hid hY
  have HS := Lib.hid (And.intro hW h0)
  clear hY hW h0 hn
  go_wp2_with fail
  go_loopw [4] (fun i wr => ∃ k : Nat, i = .int .i32 (a + (k : Int)) ∧ k ≤ n ∧ J ((upTo a b).take k) wr ∧ Ends bf bt a b wr) (fun i _ => (b + 1 - intOf i).toNat)
  case atStart => exact ⟨0, by go_num, Nat.zero_le _, by simpa using HS.out.2, HS.out.1⟩
  case round =>
    obtain ⟨k, rfl, hk, hj, he⟩ := hrel
    obtain ⟨wi, rfl⟩ : ∃ wi : World, wi = wr := ⟨_, rfl⟩
    have c1 := he.2.at 0 (v := .int .i32 b) rfl
    by_cases hlt : k < n
    · have hle : a + (k : Int) ≤ b := by omega
      have hw : IntKind.i32.wrap (a + (k : Int) + 1) = a + (k : Int) + 1 := by rw [IntKind.wrap_i32]; omega
      have hsn := upTo_take a b k (by rw [← HN.out]; exact hlt)
      obtain ⟨f, tm, asg, body, hy, hR⟩ := HY.out _ (a + (k : Int)) wi hj (by rw [List.length_take, upTo_len, ← HN.out]; omega)
      rw [← hsn] at hR
      simp only [intArg] at hy
      have HR := Lib.hid hR
      have HE := Lib.hid he
      have HSN := Lib.hid hsn
      clear hR hj he hsn
      refine (wpIn_wide (n := m)).1 ?_
      gi_wp2
      refine ⟨fun h => by simp [Fence.wide] at h, HR.out.mono ?_⟩
      rintro e W3 ⟨hk3, (⟨rfl, hJ3⟩ | ⟨rfl, hJx3⟩)⟩
      · gi_wp2
        exact ⟨⟨k + 1, by go_num, by omega, hJ3, hk3.1 _ _ _ hts HE.out.1, hk3.1 _ _ _ hts HE.out.2⟩, by simp [intOf]; omega⟩
      · gi_wp2
        exact bodyPost_ret (results_none rfl _ _ _) rfl ⟨⟨_, rfl⟩, ⟨hk3.1 _ _ _ hts HE.out.1, hk3.1 _ _ _ hts HE.out.2⟩, .inr ⟨_, List.take_prefix _ _, hJx3⟩⟩
    · obtain rfl : k = n := by omega
      have hgt : b < a + (k : Int) := by omega
      have ht : (upTo a b).take k = upTo a b := List.take_of_length_le (by rw [upTo_len, ← HN.out]; omega)
      rw [ht] at hj
      have HJ := Lib.hid (And.intro hj he)
      clear hj he ht
      go_wp2
      go_end0
      exact ⟨⟨_, rfl⟩, HJ.out.2, .inl ⟨_, rfl, HJ.out.1⟩⟩
end Go.Proofs.Ythagbhiblncpkaa
