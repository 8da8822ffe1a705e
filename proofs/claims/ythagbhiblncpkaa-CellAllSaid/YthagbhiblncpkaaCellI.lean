/-
  The iterator of cell.Line: what it tells, of any arguments.
-/
import Derived.Test.YthagbhiblncpkaaCellH
namespace Go.Proofs.Ythagbhiblncpkaa
open Go.RowKit Go.Shelf
set_option linter.unusedVariables false
attribute [local go_sem] Oper.semAt_some

/-- May a segment be gone along? -/
def lineOk (px py qx qy s : Int) : Bool := fits s && inB px py && inB qx qy
/-- The cells of a segment. -/
def lineSeq (px py qx qy s : Int) : List (Int × Int) :=
  if lineOk px py qx qy s = true then (if qx < px then rightCells qx qy px py s else rightCells px py qx qy s) else []
/-- What the iterator holds, turned already or not. -/
def LineHeld (bs bp bq : Nat) (px py qx qy s : Int) (W : World) : Prop := Held bs bp bq px py qx qy s W ∨ (qx < px ∧ Held bs bp bq qx qy px py s W)

theorem line_no (m l bs bp bq : Nat) (px py qx qy s : Int) (W : World) (hh : Held bs bp bq px py qx qy s W) (hn : lineOk px py qx qy s = false) :
    CallsIn Fence.wide m Try.prog 30 #[.func (.yield l) #[] #[], .pointer (some ⟨bs, 0, none⟩), .pointer (some ⟨bp, 0, none⟩), .pointer (some ⟨bq, 0, none⟩)] W fun e W' => (∃ v, e = .returned v) ∧ Fr [] W W' := by
  have s0 := hh.s.at 0 (v := .int .i64 s) rfl
  have p0 := hh.p.at 0 (v := .int .i32 px) rfl
  have p1 := hh.p.at 1 (v := .int .i32 py) rfl
  refine callsIn_of_wp Try.func30 rfl trivial ?_ rfl
  simp only [Try.ntmps30, List.size_toArray, List.length_cons, List.length_nil, Nat.reduceAdd, Nat.reduceSub, Array.replicate_succ, Array.replicate_zero, List.push_toArray, List.append_toArray, List.nil_append, List.cons_append]
  refine wpIn_wide.2 ?_
  cases h1 : fits s with
  | false =>
    have H1 := Lib.hid h1
    clear h1 hn
    go_wp2_with fail
    (with_reducible refine (isSize_any _ _).mono ?_)
    rintro e w1 ⟨rfl, rfl⟩
    rw [H1.out]
    go_wp2
    exact bodyPost_ret (results_none rfl _ _ _) rfl ⟨⟨_, rfl⟩, Fr.refl _ _⟩
  | true =>
    cases h2 : inB px py with
    | false =>
      have H1 := Lib.hid h1
      have H2 := Lib.hid h2
      clear h1 h2 hn
      go_wp2_with fail
      (with_reducible refine (isSize_any _ _).mono ?_)
      rintro e w1 ⟨rfl, rfl⟩
      rw [H1.out]
      go_wp2_with fail
      (with_reducible refine (in_any _ _ _).mono ?_)
      rintro e w1 ⟨rfl, fr1⟩
      rw [H2.out]
      have HF := Lib.hid fr1
      clear fr1
      go_wp2
      exact bodyPost_ret (results_none rfl _ _ _) rfl ⟨⟨_, rfl⟩, HF.out⟩
    | true =>
      have h3 : inB qx qy = false := by simpa [lineOk, h1, h2] using hn
      have H1 := Lib.hid h1
      have H2 := Lib.hid h2
      have H3 := Lib.hid h3
      clear h1 h2 h3 hn
      go_wp2_with fail
      (with_reducible refine (isSize_any _ _).mono ?_)
      rintro e w1 ⟨rfl, rfl⟩
      rw [H1.out]
      go_wp2_with fail
      (with_reducible refine (in_any _ _ _).mono ?_)
      rintro e w1 ⟨rfl, fr1⟩
      rw [H2.out]
      have hh1 := hh.fr fr1
      have q0 := hh1.q.at 0 (v := .int .i32 qx) rfl
      have q1 := hh1.q.at 1 (v := .int .i32 qy) rfl
      have HF := Lib.hid fr1
      clear fr1
      go_wp2_with fail
      (with_reducible refine (in_any _ _ _).mono ?_)
      rintro e w1 ⟨rfl, fr2⟩
      rw [H3.out]
      have HF2 := Lib.hid (HF.out.trans fr2 (by simp))
      clear fr2
      go_wp2
      exact bodyPost_ret (results_none rfl _ _ _) rfl ⟨⟨_, rfl⟩, HF2.out⟩

theorem line_tells (m bs bp bq B : Nat) (px py qx qy s : Int) :
    Tells Fence.wide m Try.prog 30 #[.pointer (some ⟨bs, 0, none⟩), .pointer (some ⟨bp, 0, none⟩), .pointer (some ⟨bq, 0, none⟩)] cellArg [bp, bq] (Kps [2, 23, 58] B)
      (fun xs => xs = lineSeq px py qx qy s) (fun pre => pre <+: lineSeq px py qx qy s) (lineSeq px py qx qy s).length (LineHeld bs bp bq px py qx qy s) (LineHeld bs bp bq px py qx qy s) := by
  intro l J Jx W hW hJ hJx hY h0
  cases hok : lineOk px py qx qy s with
  | false =>
    have e : lineSeq px py qx qy s = [] := by unfold lineSeq; rw [if_neg (by simp [hok])]
    have hno : ∀ a b c d, Held bs bp bq a b c d s W → lineOk a b c d s = false → CallsIn Fence.wide m Try.prog 30 #[.func (.yield l) #[] #[], .pointer (some ⟨bs, 0, none⟩), .pointer (some ⟨bp, 0, none⟩), .pointer (some ⟨bq, 0, none⟩)] W fun e W' => (∃ v, e = .returned v) ∧ Fr [] W W' :=
      fun a b c d h hn => line_no m l bs bp bq a b c d s W h hn
    have hok2 : lineOk qx qy px py s = false := by
      unfold lineOk at hok ⊢
      revert hok
      cases fits s <;> cases inB px py <;> cases inB qx qy <;> decide
    have := hW.elim (fun h => hno _ _ _ _ h hok) (fun h => hno _ _ _ _ h.2 hok2)
    refine this.mono ?_
    rintro e' W' ⟨hv, hf⟩
    refine ⟨hv, hW.imp (fun h => h.fr hf) (fun h => ⟨h.1, h.2.fr hf⟩), .inl ⟨[], e.symm, hJ.fr h0 hf⟩⟩
  | true =>
    have hok' := hok
    unfold lineOk at hok
    simp only [Bool.and_eq_true] at hok
    obtain ⟨⟨h1, h2⟩, h3⟩ := hok
    by_cases hlt : qx < px
    · have e : lineSeq px py qx qy s = rightCells qx qy px py s := by unfold lineSeq; rw [if_pos hok', if_pos hlt]
      rw [e] at hY ⊢
      have hY' : ∀ pre x W1, J pre W1 → pre.length < (rightCells qx qy px py s).length → YieldAt Fence.wide (m - 1) Try.prog l (cellArg x) W1 (fun e W' => KeepsTy [2, 23, 58] W1 W' ∧ ((e = .returned (.bool true) ∧ J (pre ++ [x]) W') ∨ (e = .returned (.bool false) ∧ Jx (pre ++ [x]) W'))) :=
        fun pre x W1 hj hl => (hY pre x W1 hj hl).mono (fun e W' h => ⟨h.1.1, h.2⟩)
      rcases hW with hW | ⟨_, hW⟩
      · exact (line_swap m l bs bp bq qx qy px py s h1 h3 h2 hlt J Jx W hW hJ hY' h0).mono fun e' W' ⟨hv, hh, hr⟩ => ⟨hv, .inr ⟨hlt, hh⟩, hr.imp (fun h => ⟨_, rfl, h⟩) (fun h => h)⟩
      · exact (line_in m l bs bp bq qx qy px py s h1 h3 h2 (by omega) J Jx W hW hJ hY' h0).mono fun e' W' ⟨hv, hh, hr⟩ => ⟨hv, .inr ⟨hlt, hh⟩, hr.imp (fun h => ⟨_, rfl, h⟩) (fun h => h)⟩
    · have e : lineSeq px py qx qy s = rightCells px py qx qy s := by unfold lineSeq; rw [if_pos hok', if_neg hlt]
      rw [e] at hY ⊢
      have hY' : ∀ pre x W1, J pre W1 → pre.length < (rightCells px py qx qy s).length → YieldAt Fence.wide (m - 1) Try.prog l (cellArg x) W1 (fun e W' => KeepsTy [2, 23, 58] W1 W' ∧ ((e = .returned (.bool true) ∧ J (pre ++ [x]) W') ∨ (e = .returned (.bool false) ∧ Jx (pre ++ [x]) W'))) :=
        fun pre x W1 hj hl => (hY pre x W1 hj hl).mono (fun e W' h => ⟨h.1.1, h.2⟩)
      rcases hW with hW | ⟨hx, hW⟩
      · exact (line_in m l bs bp bq px py qx qy s h1 h2 h3 (by omega) J Jx W hW hJ hY' h0).mono fun e' W' ⟨hv, hh, hr⟩ => ⟨hv, .inl hh, hr.imp (fun h => ⟨_, rfl, h⟩) (fun h => h)⟩
      · omega

theorem Held.put {bs bp bq : Nat} {px py qx qy s : Int} {W : World} (h : Held bs bp bq px py qx qy s W) {l : Nat} {o : Obj} (hl : W.heap[l]? = some o) (ho : o.isCells = false) (o' : Obj) : Held bs bp bq px py qx qy s (W.putObj l o') :=
  h.keeps (KeepsTy.put o' hl ho)

/-- first over Line. -/
theorem first_line (w : World) (bs bp bq : Nat) (px py qx qy s : Int) (hh : LineHeld bs bp bq px py qx qy s w) :
    Calls Try.prog 10 #[.func (.func 30) #[] #[.pointer (some ⟨bs, 0, none⟩), .pointer (some ⟨bp, 0, none⟩), .pointer (some ⟨bq, 0, none⟩)]] w
      (FirstPost w [bp, bq] (LineHeld bs bp bq px py qx qy s) ((lineSeq px py qx qy s).take 401)) := by
  refine first_any w 30 _ [bp, bq] [2, 23, 58] _ _ _ _ (by simp) (by simp) ?_ (enters_of Try.func30 (by kernel_rfl) rfl) (line_tells 8 bs bp bq _ px py qx qy s) ?_ ?_
  · intro r hr
    simp at hr
    rcases hh with h | ⟨_, h⟩
    · have := h.p.lt; have := h.q.lt; omega
    · have := h.p.lt; have := h.q.lt; omega
  · exact fun W hf _ => hh.imp (fun h => h.fr hf) (fun h => ⟨h.1, h.2.fr hf⟩)
  · exact fun W l o o' _ hl ho h => h.imp (fun h => h.put hl ho o') (fun h => ⟨h.1, h.2.put hl ho o'⟩)

end Go.Proofs.Ythagbhiblncpkaa
