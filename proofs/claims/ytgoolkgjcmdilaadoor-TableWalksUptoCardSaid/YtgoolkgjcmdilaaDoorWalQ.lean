/-
  Tables of values: Put, Del and Next each as one contract; in.
-/
import Derived.Test.YtgoolkgjcmdilaaDoorWalP
import Derived.Test.YtgoolkgjcmdilaaDoorTabVG
namespace Go.Proofs.YtgoolkgjcmdilaaDoor
open Go.RowKit
set_option linter.unusedVariables false
set_option linter.unusedSimpArgs false
attribute [local go_sem] Oper.semAt_some

abbrev VPs := List (Int × (Int × ByteArray))
/-- What a call that changes a table leaves. -/
def Chg (w : World) (b : Nat) (v : Value) (Qs : VPs) (room : Int) (e : Ending) (w' : World) : Prop :=
  (∃ a, e = .returned a) ∧ ∃ v', TabV w' b v' Qs room ∧ (v'.ownBlock = v.ownBlock ∨ ∃ g, v'.ownBlock = some g ∧ w.heap.size ≤ g) ∧ Fr (b :: v.ownBlock.toList) w w'
theorem put_any (w : World) (b : Nat) (v : Value) (Ps : VPs) (room id n : Int) (s : ByteArray) (h : TabV w b v Ps room) (hi : U32 id) :
    Calls Tryd.prog 13 #[.pointer (some ⟨b, 0, none⟩), .int .u32 id, .agg #[.int .i64 n, .string s]] w (Chg w b v (putL Ps room id (n, s)) room) := by
  unfold putL
  cases hh : hasId Ps id with
  | true =>
    rw [if_pos rfl]
    obtain ⟨y, hy⟩ := (has_at h.up id).1 hh
    refine (putV_old w b v Ps room id (n, s) y h hi hy).mono fun e w' hp => ?_
    obtain ⟨he, v', h1, h2, h3⟩ := hp
    exact ⟨⟨_, he⟩, v', h1, h2, h3⟩
  | false =>
    rw [if_neg (by decide)]
    by_cases hr : room ≤ (Ps.length : Int)
    · rw [if_pos hr]
      refine (putV_full w b v Ps room id (n, s) h hi hh hr).mono fun e w' hp => ?_
      obtain ⟨he, hf⟩ := hp
      exact ⟨⟨_, he⟩, v, h.grow hf, .inl rfl, hf.mono (by simp)⟩
    · rw [if_neg hr]
      refine (putV_new w b v Ps room id (n, s) h hi hh hr).mono fun e w' hp => ?_
      obtain ⟨he, v', h1, h2, h3⟩ := hp
      exact ⟨⟨_, he⟩, v', h1, h2, h3⟩
theorem del_any (w : World) (b : Nat) (v : Value) (Ps : VPs) (room id : Int) (h : TabV w b v Ps room) (hi : U32 id) :
    Calls Tryd.prog 16 #[.pointer (some ⟨b, 0, none⟩), .int .u32 id] w (Chg w b v (delL Ps id) room) := by
  unfold delL
  cases hh : hasId Ps id with
  | true =>
    rw [if_pos rfl]
    obtain ⟨y, hy⟩ := (has_at h.up id).1 hh
    refine (delV_yes w b v Ps room id y h hi hy).mono fun e w' hp => ?_
    obtain ⟨he, v', h1, h2, h3⟩ := hp
    exact ⟨⟨_, he⟩, v', h1, .inl h2, h3⟩
  | false =>
    rw [if_neg (by decide)]
    refine (delV_no w b v Ps room id h hi hh).mono fun e w' hp => ?_
    obtain ⟨he, hf⟩ := hp
    exact ⟨⟨_, he⟩, v, h.grow hf, .inl rfl, hf.mono (by simp)⟩
theorem nxt_some {Ps : VPs} (hu : Up Ps) {id p : Int} {x : Int × ByteArray} (h : Ps[nxtV Ps id false]? = some (p, x)) : hasId Ps p = true ∧ id < p ∧ ∀ a, hasId Ps a = true → id < a → p ≤ a := by
  have hm := List.mem_of_getElem? h
  have hr := rank_lt hu id h
  unfold nxtV at h hr
  rw [if_neg (by decide)] at h hr
  refine ⟨has_iff.2 ⟨x, hm⟩, ?_, fun a ha hia => ?_⟩
  · cases hh : hasId Ps id with
    | true =>
      rw [hh, if_pos rfl] at h
      obtain ⟨y, hy⟩ := (has_at hu id).1 hh
      obtain ⟨h1, e1⟩ := List.getElem?_eq_some_iff.1 hy
      obtain ⟨h2, e2⟩ := List.getElem?_eq_some_iff.1 h
      have := List.pairwise_iff_getElem.1 hu _ _ h1 h2 (by omega)
      rw [e1, e2] at this
      exact this
    | false =>
      rw [hh, if_neg (by decide)] at h hr
      have h1 : ¬ p < id := fun q => by have := hr.1 q; omega
      have h2 : p ≠ id := fun q => by
        have := has_iff.2 ⟨x, hm⟩
        rw [q, hh] at this; cases this
      omega
  · obtain ⟨y, hy⟩ := has_iff.1 ha
    obtain ⟨j, hj⟩ := List.mem_iff_getElem?.1 hy
    have hrj := rank_lt hu id hj
    obtain ⟨h1, e1⟩ := List.getElem?_eq_some_iff.1 hj
    obtain ⟨h2, e2⟩ := List.getElem?_eq_some_iff.1 h
    have hle : rank Ps id + (if hasId Ps id = true then 1 else 0) ≤ j := by
      have h3 : ¬ j < rank Ps id := fun q => by have := hrj.2 q; omega
      split
      · rename_i hh
        obtain ⟨z, hz⟩ := (has_at hu id).1 hh
        have : j ≠ rank Ps id := fun q => by rw [q, hz] at hj; cases hj; omega
        omega
      · omega
    rcases Nat.lt_or_ge (rank Ps id + (if hasId Ps id = true then 1 else 0)) j with q | q
    · have := List.pairwise_iff_getElem.1 hu _ _ h2 h1 q
      rw [e1, e2] at this
      exact Int.le_of_lt this
    · have e : j = rank Ps id + (if hasId Ps id = true then 1 else 0) := by omega
      rw [e, h] at hj
      cases hj
      exact Int.le_refl _
theorem nxt_none {Ps : VPs} (hu : Up Ps) {id : Int} (h : nxtV Ps id false = Ps.length) : ∀ a, hasId Ps a = true → ¬ id < a := by
  intro a ha hia
  obtain ⟨y, hy⟩ := has_iff.1 ha
  obtain ⟨j, hj⟩ := List.mem_iff_getElem?.1 hy
  have hrj := rank_lt hu id hj
  have h1 := (List.getElem?_eq_some_iff.1 hj).1
  have h3 : ¬ j < rank Ps id := fun q => by have := hrj.2 q; omega
  unfold nxtV at h
  rw [if_neg (by decide)] at h
  split at h
  · rename_i hh
    obtain ⟨z, hz⟩ := (has_at hu id).1 hh
    have : j ≠ rank Ps id := fun q => by rw [q, hz] at hj; cases hj; omega
    omega
  · omega
/-- What Next answers. -/
def NextP (w : World) (ok : Int → Prop) (no : Prop) (e : Ending) (w' : World) : Prop :=
  ((∃ (p n : Int) (s : ByteArray), e = .returned (.tuple #[.int .u32 p, .agg #[.int .i64 n, .string s], .bool true]) ∧ U32 p ∧ ok p) ∨ (e = .returned (.tuple #[.int .u32 0, .agg #[.int .i64 0, .string ⟨#[]⟩], .bool false]) ∧ no)) ∧ Fr [] w w'
theorem next_after (w : World) (b : Nat) (v : Value) (Ps : VPs) (room id : Int) (h : TabV w b v Ps room) (hi : U32 id) :
    Calls Tryd.prog 15 #[.pointer (some ⟨b, 0, none⟩), .int .u32 id, .bool false] w (NextP w (fun p => hasId Ps p = true ∧ id < p ∧ ∀ a, hasId Ps a = true → id < a → p ≤ a) (∀ a, hasId Ps a = true → ¬ id < a)) := by
  cases hx : Ps[nxtV Ps id false]? with
  | none =>
    have hl : nxtV Ps id false = Ps.length := by
      have := nxtV_le Ps h.up id false
      rw [List.getElem?_eq_none_iff] at hx
      omega
    refine (nextV_no w b v Ps room id false h hi hl).mono fun e w' hp => ⟨.inr ⟨hp.1, nxt_none h.up hl⟩, hp.2⟩
  | some q =>
    obtain ⟨p, x⟩ := q
    refine (nextV_yes w b v Ps room id false p x h hi hx).mono fun e w' hp => ⟨.inl ⟨p, x.1, x.2, hp.1, h.ids _ (List.mem_of_getElem? hx), nxt_some h.up hx⟩, hp.2⟩
theorem next_first (w : World) (b : Nat) (v : Value) (Ps : VPs) (room id : Int) (h : TabV w b v Ps room) (hi : U32 id) :
    Calls Tryd.prog 15 #[.pointer (some ⟨b, 0, none⟩), .int .u32 id, .bool true] w (NextP w (fun p => hasId Ps p = true ∧ ∀ a, hasId Ps a = true → p ≤ a) (∀ a, hasId Ps a = false)) := by
  have hz : nxtV Ps id true = 0 := rfl
  cases hx : Ps[0]? with
  | none =>
    have hl : Ps = [] := by
      cases Ps with
      | nil => rfl
      | cons a l => simp at hx
    refine (nextV_no w b v Ps room id true h hi (by rw [hz, hl]; rfl)).mono fun e w' hp => ⟨.inr ⟨hp.1, fun a => by rw [hl]; rfl⟩, hp.2⟩
  | some q =>
    obtain ⟨p, x⟩ := q
    refine (nextV_yes w b v Ps room id true p x h hi (by rw [hz]; exact hx)).mono fun e w' hp => ⟨.inl ⟨p, x.1, x.2, hp.1, h.ids _ (List.mem_of_getElem? hx), has_iff.2 ⟨x, List.mem_of_getElem? hx⟩, fun a ha => ?_⟩, hp.2⟩
    obtain ⟨y, hy⟩ := has_iff.1 ha
    obtain ⟨j, hj⟩ := List.mem_iff_getElem?.1 hy
    obtain ⟨h1, e1⟩ := List.getElem?_eq_some_iff.1 hj
    obtain ⟨h2, e2⟩ := List.getElem?_eq_some_iff.1 hx
    rcases Nat.eq_zero_or_pos j with e | e
    · subst e; rw [hx] at hj; cases hj; exact Int.le_refl _
    · have := List.pairwise_iff_getElem.1 h.up _ _ h2 h1 e
      rw [e1, e2] at this
      exact Int.le_of_lt this

/-- Numbers as values. -/
def u32s (xs : List Int) : List Value := xs.map (Value.int .u32)
theorem u32s_len (xs : List Int) : (u32s xs).length = xs.length := by simp [u32s]
theorem u32s_get {xs : List Int} {k : Nat} {a : Int} (h : xs[k]? = some a) : (u32s xs)[k]? = some (.int .u32 a) := by simp [u32s, h]
set_option maxRecDepth 100000 in
theorem in_any (w : World) (v : Value) (L : List Int) (x : Int) (h : Rd w v (u32s L)) (hl : L.length ≤ 4611686018427387904) : Calls Tryd.prog 17 #[v, .int .u32 x] w fun e w' => e = .returned (.bool (decide (x ∈ L))) ∧ w = w' := by
  obtain ⟨p, cap, rfl, hc, h0⟩ := h
  rw [u32s_len] at h0 hc ⊢
  obtain ⟨n, hn⟩ : ∃ n, n = L.length := ⟨_, rfl⟩
  rw [← hn] at h0 hc hl ⊢
  have H0 := Lib.hid h0
  have HN := Lib.hid hn
  clear h0 hn hc
  go_enter Tryd.func17, Tryd.ntmps17
  go_wp2_with fail
  go_loopw [5] (fun iw wr => ∃ i : Nat, iw = .int .i64 i ∧ i ≤ n ∧ (∀ j a, j < i → L[j]? = some a → a ≠ x) ∧ w = wr) (fun iw _ => n - (intOf iw).toNat)
  case atStart => exact ⟨0, rfl, Nat.zero_le _, fun j a hj => absurd hj (by omega), rfl⟩
  case round =>
    obtain ⟨i, rfl, hi, hno, rfl⟩ := hrel
    have HNO := Lib.hid hno
    clear hno
    by_cases hin : i < n
    · have hlt : i < L.length := by rw [← HN.out]; exact hin
      obtain ⟨g, o, rfl, hc⟩ := H0.out.resolve_left (by omega)
      obtain ⟨y, hy⟩ : ∃ y, y = L[i] := ⟨_, rfl⟩
      have hyi : L[i]? = some y := by rw [hy]; exact List.getElem?_eq_getElem hlt
      have c0 := hc i _ (u32s_get hyi)
      have HY := Lib.hid hyi
      have g0 : (0 : Int) ≤ (i : Int) := by omega
      have g1 : (i : Int) < (n : Int) := by omega
      clear hc hy hyi hlt
      by_cases hyx : y = x
      · subst hyx
        go_wp2_with fail
        go_ret
        exact ⟨ret_bool (decide_eq_true (List.mem_of_getElem? HY.out)).symm, rfl⟩
      · go_wp2_with fail
        refine ⟨⟨i + 1, by go_num, by omega, fun j a hj ha => ?_, by first | rfl | trivial⟩, by simp [intOf]; omega⟩
        rcases Nat.lt_or_ge j i with q | q
        · exact HNO.out j a q ha
        · obtain rfl : j = i := by omega
          rw [HY.out] at ha; cases ha; exact hyx
    · have hd : decide (x ∈ L) = false := decide_eq_false fun hm => by
        obtain ⟨j, hj⟩ := List.mem_iff_getElem?.1 hm
        have := (List.getElem?_eq_some_iff.1 hj).1
        exact HNO.out j x (by have := HN.out; omega) hj rfl
      have HD := Lib.hid hd
      clear hd
      obtain rfl : i = n := by omega
      go_wp2_with fail
      go_ret
      exact ⟨ret_bool HD.out.symm, rfl⟩
end Go.Proofs.YtgoolkgjcmdilaaDoor
