/-
  TurnsFair: what it rests on.
-/
import Derived.Test.YtjinppoecdbloaaTurnsF
namespace Go.Proofs.Ytjinppoecdbloaa
open Go.RowKit Go.Shelf Go.ChangeShapes Go.WideShapes Go.ChangeAt
set_option linter.unusedVariables false

/-- What a new one has waited. -/
def init (n : Nat) (last : Int) : List Int := if last < 0 then List.replicate n 0 else given (List.replicate n 0) last.toNat
theorem from_ok (w : World) (n : Nat) (last : Int) (h1 : 1 ≤ n) (h2 : n ≤ 16) (h3 : -1 ≤ last) (h4 : last < n) :
    Calls Try.prog 11 #[.int .i64 n, .int .i64 last] w fun e w' => e = .returned (.tuple #[.pointer (some ⟨w.heap.size + 1, 0, none⟩), .int .i64 0]) ∧
      TurnsAt w' (w.heap.size + 1) w.heap.size n last (init n last) ∧ Fr [] w w' := by
  by_cases h : last < 0
  · obtain rfl : last = -1 := by omega
    exact from_new w n h1 h2
  · obtain ⟨m, rfl⟩ := Int.eq_ofNat_of_zero_le (show 0 ≤ last by omega)
    have hi : init n m = given (List.replicate n 0) m := by unfold init; rw [if_neg h]; simp
    rw [hi]
    exact from_last w n m h1 h2 (by omega)
theorem given_bd {ws : List Int} {k : Nat} {n : Nat} {c : Int} (hl : ws.length = n) (h0 : 0 ≤ c) (h : ∀ j, j < n → 0 ≤ ws.getD j 0 ∧ ws.getD j 0 ≤ c) : ∀ j, j < n → 0 ≤ (given ws k).getD j 0 ∧ (given ws k).getD j 0 ≤ c + 1 := by
  intro j hj
  have := h j hj
  simp only [given, List.getD_eq_getElem?_getD, List.getElem?_set] at *
  split
  · split
    · simp; omega
    · simp; omega
  · simp [hl, hj] at this ⊢; omega
theorem init_bd (n : Nat) (last : Int) : ∀ j, j < n → 0 ≤ (init n last).getD j 0 ∧ (init n last).getD j 0 ≤ 1 := by
  intro j hj
  unfold init
  split
  · simp [List.getD_eq_getElem?_getD, hj]
  · have := given_bd (ws := List.replicate n 0) (k := last.toNat) (n := n) (c := 0) (by simp) (by omega) (fun j hj => by simp [List.getD_eq_getElem?_getD, hj]) j hj
    omega

/-- The reference refuses. -/
theorem rfrom_no (w : World) (n last : Int) (h : n < 1 ∨ 16 < n ∨ last < -1 ∨ n ≤ last) (hn : -9223372036854775808 ≤ n) (hn2 : n ≤ 9223372036854775807) :
    Calls Try.prog 12 #[.int .i64 n, .int .i64 last] w fun e w' => e = .returned (.pointer none) ∧ w = w' := by
  by_cases h1 : n < 1
  · go_enter Try.func12, Try.ntmps12
    go_wp2
    go_ret
    exact ⟨rfl, rfl⟩
  · by_cases h2 : 16 < n
    · go_enter Try.func12, Try.ntmps12
      go_wp2
      go_ret
      exact ⟨rfl, rfl⟩
    · go_enter Try.func12, Try.ntmps12
      go_wp2
      all_goals
        go_ret
        exact ⟨rfl, rfl⟩

/-- Who is d places on is found, at d or before. -/
theorem pos_step {n s j d who : Nat} (hn : 0 < n) (hd : pos n s d = who) (hj : j < d) : pos n (pos n s j + 1) (d - j - 1) = who := by
  rw [← hd]
  unfold pos
  rw [show (s + j) % n + 1 + (d - j - 1) = (s + j) % n + (d - j) by omega, Nat.mod_add_mod]
  congr 1
  omega
theorem pos_round {n who : Nat} (hn : 0 < n) (hw : who < n) : pos n (who + 1) (n - 1) = who := by
  unfold pos
  rw [show who + 1 + (n - 1) = who + n by omega, Nat.add_mod_right, Nat.mod_eq_of_lt hw]
theorem pos_reach {n who : Nat} (s : Nat) (hn : 0 < n) (hw : who < n) : ∃ d, d < n ∧ pos n s d = who := by
  refine ⟨(who + (n - s % n)) % n, Nat.mod_lt _ hn, ?_⟩
  unfold pos
  have h1 : s % n < n := Nat.mod_lt _ hn
  rw [Nat.add_mod_mod, ← Nat.mod_add_mod, show s % n + (who + (n - s % n)) = who + n by omega, Nat.add_mod_right, Nat.mod_eq_of_lt hw]
theorem first_unique {n s j k : Nat} {bs : List Bool} (h1 : ∀ i, i < j → isReady bs (pos n s i) = false) (h2 : isReady bs (pos n s j) = true) (h3 : ∀ i, i < k → isReady bs (pos n s i) = false) (h4 : isReady bs (pos n s k) = true) : j = k := by
  rcases Nat.lt_trichotomy j k with h | h | h
  · rw [h3 j h] at h2; cases h2
  · exact h
  · rw [h1 k h] at h4; cases h4

/-- next, where somebody is ready. -/
theorem nextq_some (w : World) (bt bw n s d : Nat) (last : Int) (ws : List Int) (rv : Value) (bs : List Bool) (hn0 : 0 < n) (hn : n ≤ 16) (hl1 : -1 ≤ last) (hl2 : last < n) (hs : (s : Int) = last + 1) (hwb : ∀ k, k < n → 0 ≤ ws.getD k 0 ∧ ws.getD k 0 ≤ 1000000)
    (ht : TurnsAt w bt bw n last ws) (hrv : Rd w rv (bools bs)) (hb : bs.length ≤ 9223372036854775807)
    (hsep : ∀ g o n c, rv = .slice (some ⟨g, o, none⟩) n c → 0 < bs.length → g < w.heap.size ∧ g ≠ bt ∧ g ≠ bw) (hd : d < n) (hr : isReady bs (pos n s d) = true) :
    Calls Try.prog 17 #[.pointer (some ⟨bt, 0, none⟩), rv] w fun e w' => ∃ j v, j ≤ d ∧ (∀ k, k < j → isReady bs (pos n s k) = false) ∧ isReady bs (pos n s j) = true ∧ e = .returned (.tuple #[.int .i64 (pos n s j : Nat), .bool true, v]) ∧
      TurnsAt w' bt bw n (pos n s j : Nat) (given ws (pos n s j)) ∧ Fr [bt, bw] w w' := by
  refine (nextq_any w bt bw n s last ws rv bs hn0 hn hl1 hl2 hs hwb ht hrv hb hsep).mono ?_
  rintro e w' ⟨hf, (⟨j, v, h1, h2, h3, h4, h5, h6, h7⟩ | ⟨v, h1, h2, h3⟩)⟩
  · refine ⟨j, v, ?_, h2, h3, h4, h5, hf⟩
    rcases Nat.lt_or_ge d j with h | h
    · rw [h2 d h] at hr; cases hr
    · exact h
  · rw [h1 d hd] at hr; cases hr

/-- make([]bool, n). -/
theorem info4 : (Try.prog.info? 4).map (fun i => (i.zero, i.size, i.bytes)) = some (some (.bool false), 1, 1) := by kernel_rfl
def noes (n : Nat) : Array Value := (bools (List.replicate n false)).toArray
theorem madeCells_noes (n : Nat) : madeCells (Value.bool false).cells (n * 1) = noes n := by
  have hc : (Value.bool false).cells = #[.bool false] := rfl
  simp only [madeCells, hc, noes, bools, Nat.mul_one]
  apply Array.ext
  · simp
  · intro i h1 h2
    simp [Nat.mod_one]
theorem make_bools (n : Nat) (hn : n ≤ 1000000) (w : World) : (Instr.makeSlice 36 (.int .i64 (n : Int)) (.int .i64 (n : Int))).run Try.prog w =
    .ok (.slice (some ⟨w.heap.size, 0, none⟩) n n) (w.alloc (.cells (noes n) 4)) := by
  obtain ⟨i, hi, hz, hs, hb⟩ := info_parts info4
  have hr := run_make (P := Try.prog) w 36 4 i (.bool false) Try.underlying36 hi hz .i64 .i64 n n (by omega) (by omega) (by rw [hb]; omega) (by omega)
  rw [hs, Int.toNat_natCast, madeCells_noes] at hr
  exact hr
/-- Behind copy. -/
def copied (n : Nat) (bs : List Bool) : List Bool := bs.take n ++ (List.replicate n false).drop bs.length
theorem copied_len (n : Nat) (bs : List Bool) : (copied n bs).length = n := by simp [copied]; omega
theorem copyL_bools (n : Nat) (bs : List Bool) : copyL (bools (List.replicate n false)) (bools bs) = bools (copied n bs) := by
  simp [copyL, bools, copied, List.map_take]
theorem bools_one (bs : List Bool) : ∀ v ∈ bools bs, v.oneCell' = true := by
  intro u hu; simp only [bools, List.mem_map] at hu; obtain ⟨x, -, rfl⟩ := hu; rfl
theorem bools_set (bs : List Bool) (k : Nat) (b : Bool) : (bools bs).toArray.setIfInBounds k (.bool b) = (bools (bs.set k b)).toArray := by
  simp [bools, List.map_set]
theorem Blk.bool {w : World} {b : Nat} {bs : List Bool} {e : TypeId} (h : Blk w b (Go.Proofs.Ytjinppoecdbloaa.bools bs).toArray e) {k : Nat} (hk : k < bs.length) : w.cell? ⟨b, k, none⟩ = some (.bool (bs.getD k false)) :=
  h.at k (by simpa using bools_get bs hk)
theorem Blk.rdb {w : World} {b : Nat} {bs : List Bool} {e : TypeId} (h : Blk w b (Go.Proofs.Ytjinppoecdbloaa.bools bs).toArray e) : Rd w (.slice (some ⟨b, 0, none⟩) bs.length bs.length) (Go.Proofs.Ytjinppoecdbloaa.bools bs) := by
  refine ⟨_, bs.length, by rw [bools_len], by rw [bools_len]; exact Nat.le_refl _, .inr ⟨b, 0, rfl, fun k u hu => ?_⟩⟩
  rw [Nat.zero_add]
  exact h.at k (by simpa using hu)

end Go.Proofs.Ytjinppoecdbloaa
