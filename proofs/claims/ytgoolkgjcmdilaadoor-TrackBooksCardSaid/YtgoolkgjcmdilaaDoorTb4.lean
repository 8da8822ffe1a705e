/-
  Tb, part 4 of 36: the texts ObD ObE.
-/
import Derived.Test.YtgoolkgjcmdilaaDoorTb3
section
namespace Go.Proofs.YtgoolkgjcmdilaaDoor
open Go.RowKit
set_option linter.unusedVariables false
set_option linter.unusedSimpArgs false
attribute [local go_sem] Oper.semAt_some
/-- It is so whatever becomes of the blocks of M. -/
def Firm (M : List Nat) (w : World) (P : World → Prop) : Prop := ∀ w', Fr M w w' → P w'
theorem Firm.out {M : List Nat} {w : World} {P : World → Prop} (h : Firm M w P) : P w := h w (Fr.refl _ _)
theorem Firm.step {M M' S : List Nat} {w w' : World} {P : World → Prop} (h : Firm M w P) (f : Fr S w w') (hs : ∀ x ∈ S, x ∈ M ∨ w.heap.size ≤ x) (hm : ∀ x ∈ M', x ∈ M ∨ w.heap.size ≤ x) : Firm M' w' P :=
  fun W F => h W ((f.mono (T := M) hs).trans F hm)
theorem Firm.sub {M S : List Nat} {w : World} {P : World → Prop} (h : Firm M w P) (hs : ∀ x ∈ S, x ∈ M) : Firm S w P := fun W F => h W (F.mono fun x hx => .inl (hs x hx))
theorem Firm.grow {M : List Nat} {w w' : World} {P : World → Prop} (h : Firm M w P) (f : Fr [] w w') : Firm M w' P := h.step f (by simp) (fun x hx => .inl hx)
theorem Firm.and {M : List Nat} {w : World} {P Q : World → Prop} (h : Firm M w P) (k : Firm M w Q) : Firm M w (fun W => P W ∧ Q W) := fun W F => ⟨h W F, k W F⟩
theorem Firm.mono {M : List Nat} {w : World} {P Q : World → Prop} (h : Firm M w P) (k : ∀ W, P W → Q W) : Firm M w Q := fun W F => k W (h W F)
/-- What lies in a block that is not of M. -/
theorem Firm.rdf {M : List Nat} {w : World} {v : Value} {n size : Nat} {vs : List Value} (h : RdF w v n size vs) (hg : ∀ g, v.ownBlock = some g → g ∉ M) : Firm M w (fun W => RdF W v n size vs) := fun W F => h.fr F hg
theorem Firm.new {M : List Nat} {w w' : World} {v : Value} {n size : Nat} {vs : List Value} (hM : ∀ m ∈ M, m < w.heap.size) (h : RdF w' v n size vs) (hg : ∀ g, v.ownBlock = some g → w.heap.size ≤ g) : Firm M w' (fun W => RdF W v n size vs) :=
  Firm.rdf h fun g e hm => by have := hM g hm; have := hg g e; omega
/-- An object, plainly. -/
structure VO where
  id : Int
  num : Int
  t : Int
  px : Int
  py : Int
  sp : Nat
  ids : List Int
/-- An object of a list that reads so. -/
def Is (w : World) (x : RO) (o : VO) : Prop := x.id = o.id ∧ x.num = o.num ∧ x.t = o.t ∧ x.px = o.px ∧ x.py = o.py ∧ x.sp = o.sp ∧ IdS w x.v o.ids
theorem Is.grow {w w' : World} {x : RO} {o : VO} (h : Is w x o) (f : Fr [] w w') : Is w' x o := ⟨h.1, h.2.1, h.2.2.1, h.2.2.2.1, h.2.2.2.2.1, h.2.2.2.2.2.1, h.2.2.2.2.2.2.grow f⟩
/-- A slice of objects that reads as these. -/
def ObjsR (w : World) (v : Value) (V : List VO) : Prop := ∃ L : List RO, ObS w v L ∧ L.length = V.length ∧ ∀ (k : Nat) (x : RO) (o : VO), L[k]? = some x → V[k]? = some o → Is w x o
theorem ObjsR.grow {w w' : World} {v : Value} {V : List VO} (h : ObjsR w v V) (f : Fr [] w w') : ObjsR w' v V := by
  obtain ⟨L, h1, h2, h3⟩ := h
  exact ⟨L, h1.grow f, h2, fun k x o hx ho => (h3 k x o hx ho).grow f⟩
/-- The document's book. L: its list as it lies. -/
structure RBookL (w : World) (M : List Nat) (kr : Nat) (r0 r1 : Int) (vL vF : Value) (L : List RO) (F : List Int) (V : List VO) : Prop where
  hd : RfAt w kr r0 r1 vL vF
  mem : kr ∈ M
  low : ∀ m ∈ M, m < w.heap.size
  obs : Firm M w (fun W => ObS W vL L)
  len : L.length = V.length
  fen : Firm M w (fun W => IdS W vF F)
  is : ∀ (k : Nat) (x : RO) (o : VO), L[k]? = some x → V[k]? = some o → Firm M w (fun W => Is W x o)
  lF : F.length ≤ 1000
  lV : V.length ≤ 1000
  lI : ∀ (k : Nat) (o : VO), V[k]? = some o → o.ids.length ≤ 1000
def RBook (w : World) (M : List Nat) (kr : Nat) (r0 r1 : Int) (F : List Int) (V : List VO) : Prop := ∃ vL vF L, RBookL w M kr r0 r1 vL vF L F V
section
variable {w w' : World} {M : List Nat} {kr : Nat} {r0 r1 : Int} {vL vF : Value} {L : List RO} {F : List Int} {V : List VO}
theorem RBookL.grow (h : RBookL w M kr r0 r1 vL vF L F V) (f : Fr [] w w') : RBookL w' M kr r0 r1 vL vF L F V :=
  ⟨f.blk h.hd (by simp), h.mem, fun m hm => Nat.lt_of_lt_of_le (h.low m hm) f.size, h.obs.grow f, h.len, h.fen.grow f, fun k x o hx ho => (h.is k x o hx ho).grow f, h.lF, h.lV, h.lI⟩
theorem RBook.grow (h : RBook w M kr r0 r1 F V) (f : Fr [] w w') : RBook w' M kr r0 r1 F V := by
  obtain ⟨vL, vF, L, h⟩ := h
  exact ⟨vL, vF, L, h.grow f⟩
/-- It lies on where other blocks of M turn; M may have grown. -/
theorem RBookL.step {M' S : List Nat} (h : RBookL w M kr r0 r1 vL vF L F V) (f : Fr S w w') (hs : ∀ x ∈ S, x ∈ M ∨ w.heap.size ≤ x) (hk : kr ∉ S) (hm : ∀ x ∈ M', x ∈ M ∨ w.heap.size ≤ x) (hl : ∀ x ∈ M', x < w'.heap.size) (hkM : kr ∈ M') : RBookL w' M' kr r0 r1 vL vF L F V :=
  ⟨f.blk h.hd hk, hkM, hl, h.obs.step f hs hm, h.len, h.fen.step f hs hm, fun k x o hx ho => (h.is k x o hx ho).step f hs hm, h.lF, h.lV, h.lI⟩
theorem RBook.step {M' S : List Nat} (h : RBook w M kr r0 r1 F V) (f : Fr S w w') (hs : ∀ x ∈ S, x ∈ M ∨ w.heap.size ≤ x) (hk : kr ∉ S) (hm : ∀ x ∈ M', x ∈ M ∨ w.heap.size ≤ x) (hl : ∀ x ∈ M', x < w'.heap.size) (hkM : kr ∈ M') : RBook w' M' kr r0 r1 F V := by
  obtain ⟨vL, vF, L, h⟩ := h
  exact ⟨vL, vF, L, h.step f hs hk hm hl hkM⟩
/-- Another list is laid in. -/
theorem RBookL.obs' {L' : List RO} {V' : List VO} {vL' : Value} (h : RBookL w M kr r0 r1 vL vF L F V) (h1 : RfAt w' kr r0 r1 vL' vF) (h2 : ObS w' vL' L') (h3 : ∀ g, vL'.ownBlock = some g → w.heap.size ≤ g) (f : Fr [kr] w w') (hl : L'.length = V'.length) (hV : V'.length ≤ 1000) (hI : ∀ (k : Nat) (o : VO), V'[k]? = some o → o.ids.length ≤ 1000)
    (his : ∀ (k : Nat) (x : RO) (o : VO), L'[k]? = some x → V'[k]? = some o → Firm M w (fun W => Is W x o)) : RBookL w' M kr r0 r1 vL' vF L' F V' :=
  have hs : ∀ x ∈ [kr], x ∈ M ∨ w.heap.size ≤ x := fun x hx => .inl (by simp at hx; rw [hx]; exact h.mem)
  ⟨h1, h.mem, fun m hm => Nat.lt_of_lt_of_le (h.low m hm) f.size, Firm.new h.low h2 h3, hl, h.fen.step f hs (fun x hx => .inl hx), fun k x o hx ho => (his k x o hx ho).step f hs (fun x hx => .inl hx), h.lF, hV, hI⟩
end
theorem rnew_no (w : World) (a b : Int) (h : a < 1 ∨ 64 < a ∨ b < 1 ∨ 64 < b) : Calls Tryd.prog 51 #[.int .i64 a, .int .i64 b] w fun e w' => e = .returned (.pointer none) ∧ w = w' := by
  by_cases h1 : a < 1
  · go_enter Tryd.func51, Tryd.ntmps51
    go_wp2
    go_ret
    exact ⟨rfl, rfl⟩
  · by_cases h2 : 64 < a
    · go_enter Tryd.func51, Tryd.ntmps51
      go_wp2
      go_ret
      exact ⟨rfl, rfl⟩
    · by_cases h3 : b < 1
      · clear h
        go_enter Tryd.func51, Tryd.ntmps51
        go_wp2
        go_ret
        exact ⟨rfl, rfl⟩
      · have h4 : 64 < b := by omega
        clear h
        go_enter Tryd.func51, Tryd.ntmps51
        go_wp2
        go_ret
        exact ⟨rfl, rfl⟩
theorem rnew_ok (w : World) (a b : Int) (h1 : 1 ≤ a) (h2 : a ≤ 64) (h3 : 1 ≤ b) (h4 : b ≤ 64) : Calls Tryd.prog 51 #[.int .i64 a, .int .i64 b] w fun e w' => ∃ kr, e = .returned (.pointer (some ⟨kr, 0, none⟩)) ∧ RfAt w' kr a b (.slice none 0 0) (.slice none 0 0) ∧ w.heap.size ≤ kr ∧ Fr [] w w' := by
  have k1 : ¬ a < 1 := by omega
  have k2 : ¬ 64 < a := by omega
  have k3 : ¬ b < 1 := by omega
  have k4 : ¬ 64 < b := by omega
  go_enter Tryd.func51, Tryd.ntmps51
  go_wp2
  go_ret
  exact ⟨_, rfl, Blk.new w _ _, Nat.le_refl _, (Fr.refl _ _).alloc _⟩
def insV (V : List VO) (f : Int) : List Int := (V.filter (fun o => decide (f ∈ o.ids))).map (·.id)
theorem insV_snoc {V : List VO} {k : Nat} {o : VO} (f : Int) (h : V[k]? = some o) : insV (V.take (k + 1)) f = insV (V.take k) f ++ (if f ∈ o.ids then [o.id] else []) := by
  unfold insV
  rw [take_snoc h, List.filter_append, List.map_append]
  by_cases hp : f ∈ o.ids
  · rw [if_pos hp]; simp [hp]
  · rw [if_neg hp]; simp [hp]
theorem insV_len (V : List VO) (f : Int) : (insV V f).length ≤ V.length := by
  unfold insV
  rw [List.length_map]
  exact List.length_filter_le _ _
end Go.Proofs.YtgoolkgjcmdilaaDoor
end
section
namespace Go.Proofs.YtgoolkgjcmdilaaDoor
open Go.RowKit
set_option linter.unusedVariables false
set_option linter.unusedSimpArgs false
attribute [local go_sem] Oper.semAt_some
set_option maxRecDepth 100000 in
set_option maxHeartbeats 800000 in
theorem rinside (w : World) (M : List Nat) (kr : Nat) (r0 r1 : Int) (F : List Int) (V : List VO) (f : Int) (h : RBook w M kr r0 r1 F V) :
    Calls Tryd.prog 58 #[.pointer (some ⟨kr, 0, none⟩), .int .u32 f] w (IdsPost w (insV V f)) := by
  obtain ⟨vL, vF, L, h⟩ := h
  obtain ⟨n, hn⟩ : ∃ n, n = L.length := ⟨_, rfl⟩
  obtain ⟨p, cap, rfl⟩ := h.obs.out.form
  have hs : n ≤ 1000 := by have := h.len; have := h.lV; omega
  have HB := Lib.hid (show ∀ W, Fr [] w W → W.cell? ⟨kr, 2, none⟩ = some (.slice p n cap) from fun W F => by rw [hn]; exact (F.blk h.hd (by simp)).at 2 rfl)
  have HL := Lib.hid (And.intro h hn)
  clear h hn
  go_enter Tryd.func58, Tryd.ntmps58
  go_wp2
  go_loopw [5, 6] (fun u i wr => ∃ k : Nat, k ≤ n ∧ i = .int .i64 k ∧ RowNew w 33 1 wr u (insV (V.take k) f).length (u32v (insV (V.take k) f))) (fun _ i _ => n - (intOf i).toNat)
  case atStart => exact ⟨0, by omega, rfl, by have : insV (V.take 0) f = [] := (by unfold insV; simp); rw [this]; exact RowNew.start _ _ _⟩
  case round =>
    obtain ⟨k, hk, rfl, hr⟩ := hrel
    obtain ⟨pu, cu, rfl⟩ := hr.form
    have hlen : (insV (V.take k) f).length ≤ 1000 := by have := insV_len (V.take k) f; rw [List.length_take] at this; omega
    have HR := Lib.hid (And.intro hr hlen)
    clear hr hlen
    have d2 := HB.out _ HR.out.1.fr
    by_cases hlt : k < n
    · obtain ⟨x, hx⟩ : ∃ x, L[k]? = some x := ⟨_, List.getElem?_eq_getElem (by have := HL.out.2; omega)⟩
      obtain ⟨o, ho⟩ : ∃ o, V[k]? = some o := ⟨_, List.getElem?_eq_getElem (by have := HL.out.2; have := HL.out.1.len; omega)⟩
      have hg := HL.out.1.grow HR.out.1.fr
      obtain ⟨g, o1, cp, hv, hc⟩ := ObS.at hg.obs.out hx
      obtain rfl := (Value.slice.inj hv).1
      have z0 := hc.c0
      have z6 := hc.c6
      have his := (hg.is k x o hx ho).out
      have HC := Lib.hid (has_ids wr x.v o.ids f his.2.2.2.2.2.2 (by have := hg.lI k o ho; omega))
      rw [his.1] at z0
      have hsn := insV_snoc f ho
      clear hv hc his hg hx ho
      generalize insV (V.take k) f = q at *
      have HS2 := Lib.hid (And.intro HR.out.2 (own_fr (S := []) HR.out.1.own ((Fr.refl [] wr).alloc (.cells #[.int .u32 o.id] 33)) (by simp)))
      unfold RO.v at HC
      by_cases hf : f ∈ o.ids
      · rw [if_pos hf] at hsn
        rw [decide_eq_true hf] at HC
        have HW := Lib.hid hsn
        clear hsn hf
        go_wp2_with fail
        (with_reducible refine (HC.out).mono ?_)
        rintro e w1 ⟨rfl, rfl⟩
        go_wp2_with (at_builtin; go_must (refine wpList_app _ rfl (.tmp 26) (.tmp 35) 22 rfl 33 (.int .u32 0) 1 4 Tryd.underlying22 infoU rfl (by decide) _ _ _ rfl HS2.out.2 ⟨_, 0, none⟩ 1 1 [.int .u32 o.id] rfl rfl (new_one _ _ _ _ rfl) (by simp [Value.oneCell']) (by have := HS2.out.1; unfold maxLen; omega) (by have := HS2.out.1; omega) ?_); intro v2 w2 happ; have HA := Lib.hid happ; clear happ)
        go_roundw
        case rel => exact ⟨k + 1, by omega, by go_num, by rw [HW.out]; exact HR.out.1.ids1 HA.out⟩
        case measure => simp [intOf]; omega
      · rw [if_neg hf, List.append_nil] at hsn
        rw [decide_eq_false hf] at HC
        have HW := Lib.hid hsn
        clear hsn hf
        go_wp2_with fail
        (with_reducible refine (HC.out).mono ?_)
        rintro e w1 ⟨rfl, rfl⟩
        go_wp2
        go_roundw
        case rel => exact ⟨k + 1, by omega, by go_num, by rw [HW.out]; exact HR.out.1⟩
        case measure => simp [intOf]; omega
    · have hfin : V.take k = V := List.take_of_length_le (by have := HL.out.2; have := HL.out.1.len; omega)
      rw [hfin] at HR ⊢
      clear hfin
      go_wp2
      go_ret
      exact ⟨_, rfl, HR.out.1⟩
theorem RBookL.fences {w w1 : World} {M : List Nat} {kr : Nat} {r0 r1 : Int} {vL vF : Value} {L : List RO} {F F' : List Int} {V : List VO} (h : RBookL w M kr r0 r1 vL vF L F V) (v : Value) (hn : RowNew w 33 1 w1 v F'.length (u32v F')) (hF : F'.length ≤ 1000) :
    RBookL (w1.setCell ⟨kr, 3, none⟩ v) M kr r0 r1 vL v L F' V ∧ Fr [kr] w (w1.setCell ⟨kr, 3, none⟩ v) := by
  have hb := hn.fr.blk h.hd (by simp)
  have f2 : Fr [kr] w1 (w1.setCell ⟨kr, 3, none⟩ v) := (Fr.refl [kr] w1).setCell _ _ (.inl (by simp))
  have f : Fr [kr] w (w1.setCell ⟨kr, 3, none⟩ v) := (hn.fr.mono (by simp)).trans f2 (fun s hs => .inl hs)
  have hs : ∀ x ∈ [kr], x ∈ M ∨ w.heap.size ≤ x := fun x hx => .inl (by simp at hx; rw [hx]; exact h.mem)
  have hk := Blk.lt h.hd
  refine ⟨⟨hb.set 3 v, h.mem, fun m hm => Nat.lt_of_lt_of_le (h.low m hm) f.size, h.obs.step f hs (fun x hx => .inl hx), h.len, ?_, fun k x o hx ho => (h.is k x o hx ho).step f hs (fun x hx => .inl hx), hF, h.lV, h.lI⟩, f⟩
  exact Firm.new h.low (RdF.fr (hn.rd (by decide) (by unfold maxLen; omega)) f2 (fun g hg hm => by have := hn.low g hg; simp at hm; omega)) hn.low
theorem withL_len (l : List Int) (f : Int) : (withL l f).length ≤ l.length + 2 := by
  have := (wstTo_len f l).1
  unfold withL
  split
  · omega
  · rw [List.length_append, List.length_singleton]; omega
set_option maxRecDepth 100000 in
theorem raddF_was (w : World) (M : List Nat) (kr : Nat) (r0 r1 : Int) (F : List Int) (V : List VO) (f : Int) (h : RBook w M kr r0 r1 F V) (hf : f ∈ F) :
    Calls Tryd.prog 121 #[.pointer (some ⟨kr, 0, none⟩), .int .u32 f] w fun e w' => e = .returned (.int .i64 180) ∧ w = w' := by
  obtain ⟨vL, vF, L, h⟩ := h
  obtain ⟨p, cap, rfl⟩ := h.fen.out.form
  have d3 := h.hd.at 3 (v := .slice p F.length cap) rfl
  have hC := has_ids w _ F f h.fen.out (by have := h.lF; omega)
  rw [decide_eq_true hf] at hC
  have HC := Lib.hid hC
  clear h hC hf
  go_enter Tryd.func121, Tryd.ntmps121
  go_wp2_with fail
  (with_reducible refine (HC.out).mono ?_)
  rintro e w1 ⟨rfl, rfl⟩
  go_wp2
  go_ret
  exact ⟨rfl, rfl⟩
set_option maxRecDepth 100000 in
theorem raddF_full (w : World) (M : List Nat) (kr : Nat) (r0 r1 : Int) (F : List Int) (V : List VO) (f : Int) (h : RBook w M kr r0 r1 F V) (hf : ¬ f ∈ F) (hr : r1 ≤ (F.length : Int)) :
    Calls Tryd.prog 121 #[.pointer (some ⟨kr, 0, none⟩), .int .u32 f] w fun e w' => e = .returned (.int .i64 5) ∧ Fr [] w w' := by
  obtain ⟨vL, vF, L, h⟩ := h
  obtain ⟨p, cap, rfl⟩ := h.fen.out.form
  have d3 := h.hd.at 3 (v := .slice p F.length cap) rfl
  have d1 := h.hd.at 1 (v := .int .i64 r1) rfl
  have hC := has_ids w _ F f h.fen.out (by have := h.lF; omega)
  rw [decide_eq_false hf] at hC
  have HC := Lib.hid hC
  clear h hC hf
  go_enter Tryd.func121, Tryd.ntmps121
  go_wp2_with fail
  (with_reducible refine (HC.out).mono ?_)
  rintro e w1 ⟨rfl, rfl⟩
  go_wp2_with fail
  go_quiet (fail)
  go_wp2
  go_ret
  exact ⟨rfl, (Fr.refl _ _).drewN _⟩
/-- The document's book with others of its parts. -/
def RBPost (w : World) (M : List Nat) (kr : Nat) (r0 r1 : Int) (F : List Int) (V : List VO) (a : Value) (e : Ending) (w' : World) : Prop := e = .returned a ∧ RBook w' M kr r0 r1 F V ∧ Fr [kr] w w'
set_option maxRecDepth 100000 in
theorem raddF_new (w : World) (M : List Nat) (kr : Nat) (r0 r1 : Int) (F : List Int) (V : List VO) (f : Int) (h : RBook w M kr r0 r1 F V) (hf : ¬ f ∈ F) (hr : ¬ r1 ≤ (F.length : Int)) (hr1 : r1 ≤ 64) :
    Calls Tryd.prog 121 #[.pointer (some ⟨kr, 0, none⟩), .int .u32 f] w (RBPost w M kr r0 r1 (withL F f) V (.int .i64 0)) := by
  obtain ⟨vL, vF, L, h⟩ := h
  obtain ⟨p, cap, rfl⟩ := h.fen.out.form
  have d3 := h.hd.at 3 (v := .slice p F.length cap) rfl
  have d1 := h.hd.at 1 (v := .int .i64 r1) rfl
  have hC := has_ids w _ F f h.fen.out (by have := h.lF; omega)
  rw [decide_eq_false hf] at hC
  have HC := Lib.hid hC
  have HH := Lib.hid h
  have HN := Lib.hid (show (withL F f).length ≤ 1000 by have := withL_len F f; omega)
  clear h hC hf
  go_enter Tryd.func121, Tryd.ntmps121
  go_wp2_with fail
  (with_reducible refine (HC.out).mono ?_)
  rintro e w1 ⟨rfl, rfl⟩
  go_wp2_with fail
  go_quiet (fail)
  rename Nat => nq
  obtain ⟨wq, hwq⟩ : ∃ wq, wq = w.drewN nq := ⟨_, rfl⟩
  have fq : Fr [] w wq := by rw [hwq]; exact (Fr.refl _ _).drewN _
  rw [← hwq]
  have HQ := Lib.hid (And.intro (HH.out.grow fq) fq)
  clear hwq fq d3 d1 HC HH
  have d3 := HQ.out.1.hd.at 3 (v := .slice p F.length cap) rfl
  go_wp2_with fail
  (with_reducible refine (with_ids wq _ F f HQ.out.1.fen.out (by have := HQ.out.1.lF; omega)).mono ?_)
  rintro e w2 ⟨v, rfl, hv⟩
  obtain ⟨pv, cv, rfl⟩ := hv.form
  have e3 := (hv.fr.blk HQ.out.1.hd (by simp)).free 3
  have d3' := (hv.fr.blk HQ.out.1.hd (by simp)).at 3 (v := .slice p F.length cap) rfl
  have HV := Lib.hid (RBookL.fences HQ.out.1 _ hv HN.out)
  clear hv d3
  go_wp2
  go_ret
  exact ⟨rfl, ⟨_, _, _, HV.out.1⟩, (HQ.out.2.mono (by simp)).trans HV.out.2 (fun s hs => .inl hs)⟩
def Al (R : RO → VO → Prop) (L : List RO) (V : List VO) : Prop := L.length = V.length ∧ ∀ (k : Nat) (x : RO) (o : VO), L[k]? = some x → V[k]? = some o → R x o
section
variable {R : RO → VO → Prop} {L : List RO} {V : List VO}
theorem Al.nil : Al R [] [] := ⟨rfl, fun k x o h => by simp at h⟩
theorem Al.snoc {x : RO} {o : VO} (h : Al R L V) (hx : R x o) : Al R (L ++ [x]) (V ++ [o]) := by
  refine ⟨by simp [h.1], fun k y q hy hq => ?_⟩
  rcases Nat.lt_trichotomy k L.length with c | c | c
  · rw [List.getElem?_append_left c] at hy
    rw [List.getElem?_append_left (by rw [← h.1]; exact c)] at hq
    exact h.2 k y q hy hq
  · rw [c, List.getElem?_append_right (Nat.le_refl _), Nat.sub_self] at hy
    rw [c, h.1, List.getElem?_append_right (Nat.le_refl _), Nat.sub_self] at hq
    simp at hy hq
    subst hy hq
    exact hx
  · rw [List.getElem?_eq_none (by simp; omega)] at hy
    cases hy
theorem Al.set {x : RO} {o : VO} (h : Al R L V) (r : Nat) (hx : R x o) : Al R (L.set r x) (V.set r o) := by
  refine ⟨by simp [h.1], fun k y q hy hq => ?_⟩
  rw [List.getElem?_set] at hy hq
  by_cases hk : r = k
  · subst hk
    rw [if_pos rfl] at hy hq
    split at hy
    · split at hq
      · cases hy; cases hq; exact hx
      · cases hq
    · cases hy
  · rw [if_neg hk] at hy hq
    exact h.2 k y q hy hq
theorem Al.erase (h : Al R L V) (r : Nat) : Al R (L.eraseIdx r) (V.eraseIdx r) := by
  refine ⟨by rw [List.length_eraseIdx, List.length_eraseIdx, h.1], fun k y q hy hq => ?_⟩
  rw [List.getElem?_eraseIdx] at hy hq
  split at hy
  · rw [if_pos (by assumption)] at hq
    exact h.2 _ y q hy hq
  · rw [if_neg (by assumption)] at hq
    exact h.2 _ y q hy hq
end
def posFrom (id : Int) : List VO → Int → Int
  | [], _ => -1
  | x :: l, k => if x.id = id then k else posFrom id l (k + 1)
/-- Where an object stands; -1: nowhere. -/
def posV (V : List VO) (id : Int) : Int := posFrom id V 0
theorem find_pos (id : Int) : ∀ (L : List RO) (V : List VO) (k : Int), Al (fun x o => x.id = o.id) L V → findFrom id L k = posFrom id V k
  | [], [], _, _ => rfl
  | [], _ :: _, _, h => by have := h.1; simp at this
  | _ :: _, [], _, h => by have := h.1; simp at this
  | x :: L, o :: V, k, h => by
    have h0 : x.id = o.id := h.2 0 x o rfl rfl
    have h1 : Al (fun x o => x.id = o.id) L V := ⟨by have := h.1; simpa using this, fun j y q hy hq => h.2 (j + 1) y q (by simpa using hy) (by simpa using hq)⟩
    unfold findFrom posFrom
    rw [h0, find_pos id L V (k + 1) h1]
theorem posFrom_range (id : Int) : ∀ (l : List VO) (k : Int), posFrom id l k = -1 ∨ (k ≤ posFrom id l k ∧ posFrom id l k < k + l.length)
  | [], k => .inl rfl
  | x :: l, k => by
    unfold posFrom
    split
    · exact .inr ⟨Int.le_refl _, by simp; omega⟩
    · rcases posFrom_range id l (k + 1) with h | h
      · exact .inl h
      · exact .inr (by simp; omega)
theorem posV_range (V : List VO) (id : Int) : posV V id = -1 ∨ (0 ≤ posV V id ∧ posV V id < V.length) := by
  have := posFrom_range id V 0
  unfold posV
  omega
section
variable {w : World} {M : List Nat} {kr : Nat} {r0 r1 : Int} {vL vF : Value} {L : List RO} {F : List Int} {V : List VO}
theorem RBookL.al (h : RBookL w M kr r0 r1 vL vF L F V) : Al (fun x o => Firm M w (fun W => Is W x o)) L V := ⟨h.len, h.is⟩
theorem RBookL.find (h : RBookL w M kr r0 r1 vL vF L F V) (id : Int) : findZ L id = posV V id :=
  find_pos id L V 0 ⟨h.len, fun k x o hx ho => (h.is k x o hx ho).out.1⟩
end
theorem rfind (w : World) (M : List Nat) (kr : Nat) (r0 r1 : Int) (F : List Int) (V : List VO) (id : Int) (h : RBook w M kr r0 r1 F V) :
    Calls Tryd.prog 112 #[.pointer (some ⟨kr, 0, none⟩), .int .u32 id] w fun e w' => e = .returned (.int .i64 (posV V id)) ∧ w = w' := by
  obtain ⟨vL, vF, L, h⟩ := h
  rw [← h.find id]
  exact find_ob w kr r0 r1 vL vF L id h.hd h.obs.out (by have := h.len; have := h.lV; omega)
def delV (V : List VO) (z : Int) : List VO := if z < 0 then V else V.eraseIdx z.toNat
theorem rforget (w : World) (M : List Nat) (kr : Nat) (r0 r1 : Int) (F : List Int) (V : List VO) (id : Int) (h : RBook w M kr r0 r1 F V) :
    Calls Tryd.prog 120 #[.pointer (some ⟨kr, 0, none⟩), .int .u32 id] w (RBPost w M kr r0 r1 F (delV V (posV V id)) (.bool (decide (0 ≤ posV V id)))) := by
  obtain ⟨vL, vF, L, h⟩ := h
  have hf := h.find id
  refine (forget_ob w kr r0 r1 vL vF L id h.hd h.obs.out (by have := h.len; have := h.lV; omega)).mono ?_
  rintro e w' ⟨rfl, vL', h1, h2, h3, h4⟩
  rw [hf] at h2 ⊢
  have hal : Al (fun x o => Firm M w (fun W => Is W x o)) (delAt L (posV V id)) (delV V (posV V id)) := by
    unfold delAt delV
    split
    · exact h.al
    · exact h.al.erase _
  have hle : (delV V (posV V id)).length ≤ V.length := by
    unfold delV
    split
    · exact Nat.le_refl _
    · rw [List.length_eraseIdx]; split <;> omega
  refine ⟨rfl, ⟨vL', vF, _, h.obs' h1 h2 h3 h4 hal.1 (Nat.le_trans hle h.lV) (fun k o ho => ?_) hal.2⟩, h4⟩
  have : o ∈ V := by
    have := List.mem_of_getElem? ho
    unfold delV at this
    split at this
    · exact this
    · exact List.mem_of_mem_eraseIdx this
  obtain ⟨j, hj⟩ := List.mem_iff_getElem?.1 this
  exact h.lI j o hj
theorem rwith (w : World) (M : List Nat) (kr : Nat) (r0 r1 : Int) (F : List Int) (V : List VO) (r : Nat) (x : RO) (o : VO) (h : RBook w M kr r0 r1 F V) (hx : Firm M w (fun W => Is W x o)) (hi : o.ids.length ≤ 1000) :
    Calls Tryd.prog 147 #[.pointer (some ⟨kr, 0, none⟩), .int .i64 r, .agg (encO x).toArray] w (RBPost w M kr r0 r1 F (V.set r o) (.tuple #[])) := by
  obtain ⟨vL, vF, L, h⟩ := h
  refine (with_ob w kr r0 r1 vL vF L x r h.hd h.obs.out (by have := h.len; have := h.lV; omega)).mono ?_
  rintro e w' ⟨rfl, vL', h1, h2, h3, h4⟩
  have hal := h.al.set r hx
  refine ⟨rfl, ⟨vL', vF, _, h.obs' h1 h2 h3 h4 hal.1 (by rw [List.length_set]; exact h.lV) (fun k q hq => ?_) hal.2⟩, h4⟩
  rw [List.getElem?_set] at hq
  split at hq
  · split at hq
    · cases hq; exact hi
    · cases hq
  · exact h.lI k q hq
/-- One more object. -/
def vst (o : VO) (s : List VO × Bool) (x : VO) : List VO × Bool := if s.2 = false ∧ o.id < x.id then (s.1 ++ [o] ++ [x], true) else (s.1 ++ [x], s.2)
def vstTo (o : VO) (l : List VO) : List VO × Bool := l.foldl (vst o) ([], false)
def putV (l : List VO) (o : VO) : List VO := if (vstTo o l).2 = true then (vstTo o l).1 else (vstTo o l).1 ++ [o]
theorem putV_al {R : RO → VO → Prop} (hR : ∀ x o, R x o → x.id = o.id) {x : RO} {o : VO} (hx : R x o) : ∀ (L : List RO) (V : List VO) (s : List RO × Bool) (t : List VO × Bool), Al R L V → Al R s.1 t.1 → s.2 = t.2 → Al R (L.foldl (ost x) s).1 (V.foldl (vst o) t).1 ∧ (L.foldl (ost x) s).2 = (V.foldl (vst o) t).2
  | [], [], s, t, _, h2, h3 => ⟨h2, h3⟩
  | [], _ :: _, _, _, h, _, _ => by have := h.1; simp at this
  | _ :: _, [], _, _, h, _, _ => by have := h.1; simp at this
  | y :: L, q :: V, s, t, h, h2, h3 => by
    have h0 : R y q := h.2 0 y q rfl rfl
    have h1 : Al R L V := ⟨by have := h.1; simpa using this, fun j y q hy hq => h.2 (j + 1) y q (by simpa using hy) (by simpa using hq)⟩
    rw [List.foldl_cons, List.foldl_cons]
    have e1 := hR y q h0
    have e2 := hR x o hx
    have es : ost x s y = if t.2 = false ∧ o.id < q.id then (s.1 ++ [x] ++ [y], true) else (s.1 ++ [y], t.2) := by unfold ost; rw [h3, e1, e2]
    have et : vst o t q = if t.2 = false ∧ o.id < q.id then (t.1 ++ [o] ++ [q], true) else (t.1 ++ [q], t.2) := rfl
    rw [es, et]
    by_cases hc : t.2 = false ∧ o.id < q.id
    · rw [if_pos hc, if_pos hc]
      exact putV_al hR hx L V (s.1 ++ [x] ++ [y], true) (t.1 ++ [o] ++ [q], true) h1 ((h2.snoc hx).snoc h0) rfl
    · rw [if_neg hc, if_neg hc]
      exact putV_al hR hx L V (s.1 ++ [y], t.2) (t.1 ++ [q], t.2) h1 (h2.snoc h0) rfl
theorem putL_al {R : RO → VO → Prop} (hR : ∀ x o, R x o → x.id = o.id) {x : RO} {o : VO} (hx : R x o) {L : List RO} {V : List VO} (h : Al R L V) : Al R (putL L x) (putV V o) := by
  obtain ⟨h1, h2⟩ := putV_al hR hx L V ([], false) ([], false) h Al.nil rfl
  unfold putL putV ostTo vstTo
  rw [h2]
  split
  · exact h1
  · exact h1.snoc hx
theorem putV_mem {l : List VO} {o q : VO} (h : q ∈ putV l o) : q = o ∨ q ∈ l := by
  have hs : ∀ (l : List VO) (s : List VO × Bool), q ∈ (l.foldl (vst o) s).1 → q ∈ s.1 ∨ q = o ∨ q ∈ l := by
    intro l
    induction l with
    | nil => intro s h; exact .inl h
    | cons y l ih =>
      intro s h
      rw [List.foldl_cons] at h
      rcases ih _ h with h | h | h
      · unfold vst at h
        split at h
        · simp at h
          rcases h with h | h | h
          · exact .inl h
          · exact .inr (.inl h)
          · exact .inr (.inr (by simp [h]))
        · simp at h
          rcases h with h | h
          · exact .inl h
          · exact .inr (.inr (by simp [h]))
      · exact .inr (.inl h)
      · exact .inr (.inr (by simp [h]))
  unfold putV at h
  split at h
  · rcases hs l _ h with h | h | h
    · simp at h
    · exact .inl h
    · exact .inr h
  · rcases List.mem_append.1 h with h | h
    · rcases hs l _ h with h | h | h
      · simp at h
      · exact .inl h
      · exact .inr h
    · exact .inl (by simpa using h)
theorem rput (w : World) (M : List Nat) (kr : Nat) (r0 r1 : Int) (F : List Int) (V : List VO) (x : RO) (o : VO) (h : RBook w M kr r0 r1 F V) (hx : Firm M w (fun W => Is W x o)) (hi : o.ids.length ≤ 1000) (hV : V.length ≤ 900) :
    Calls Tryd.prog 146 #[.pointer (some ⟨kr, 0, none⟩), .agg (encO x).toArray] w (RBPost w M kr r0 r1 F (putV V o) (.tuple #[])) := by
  obtain ⟨vL, vF, L, h⟩ := h
  refine (put_ob w kr r0 r1 vL vF L x h.hd h.obs.out (by have := h.len; have := h.lV; omega)).mono ?_
  rintro e w' ⟨rfl, vL', h1, h2, h3, h4⟩
  have hal := putL_al (R := fun x o => Firm M w (fun W => Is W x o)) (fun x o h => h.out.1) hx h.al
  have hle := putL_len L x
  refine ⟨rfl, ⟨vL', vF, _, h.obs' h1 h2 h3 h4 hal.1 (by rw [← hal.1]; have := h.len; omega) (fun k q hq => ?_) hal.2⟩, h4⟩
  rcases putV_mem (List.mem_of_getElem? hq) with e | e
  · rw [e]; exact hi
  · obtain ⟨j, hj⟩ := List.mem_iff_getElem?.1 e
    exact h.lI j q hj
end Go.Proofs.YtgoolkgjcmdilaaDoor
end
