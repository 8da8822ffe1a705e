/-
  Script: Parse. Printed by genPa.py.
-/
import Derived.Test.YtbpgpjibljgiiaaGreatDoorParA
namespace Go.Proofs.YtbpgpjibljgiiaaGreatDoor
open Go.RowKit
set_option linter.unusedVariables false
set_option linter.unusedSimpArgs false
attribute [local go_sem] Oper.semAt_some
attribute [local go_sem ↓] loadVar29 storeVar29
attribute [local go_sem] run_loadScr run_storeScr
namespace Sc
def zeroScr : Array Value := #[.int .i64 0, .int .i64 0, .int .i64 0, .int .i64 0, .int .i64 0, .int .i64 0, .int .i64 0, .int .i64 0, .int .i64 0, .int .i64 0, .int .i64 0, .slice none 0 0]
theorem zeroScr_is : zeroScr = scrC zeros (.slice none 0 0) := rfl
/-- What Parse answers. -/
def ParQ (n0 : Nat) (w : World) (R : Except Flt3 (List Int × List St)) (e : Ending) (w' : World) : Prop :=
  match R with
  | .error f => ∃ fb, e = .returned (.tuple #[.agg zeroScr, .iface 42 (.pointer (some ⟨fb, 0, none⟩))]) ∧ Blk w' fb #[.int .i64 f.1, .int .i64 f.2.1, .int .i64 f.2.2] 43 ∧ n0 ≤ fb ∧ Fr [] w w'
  | .ok (cfg, L) => ∃ v C, e = .returned (.tuple #[.agg (scrC cfg v), .nilIface]) ∧ cfg.length = 11 ∧ C.map Prod.fst = L ∧ StepsV w' n0 v C ∧ Fr [] w w'
theorem ParQ.bad {n0 : Nat} {w w' : World} {l a : Nat} {c : Int} {fb : Nat} {R : Except Flt3 (List Int × List St)} (hR : R = .error (l, a, c)) (hb : Blk w' fb #[.int .i64 l, .int .i64 a, .int .i64 c] 43) (hn : n0 ≤ fb) (hf : Fr [] w w') : ParQ n0 w R (.returned (.tuple #[.agg zeroScr, .iface 42 (.pointer (some ⟨fb, 0, none⟩))])) w' := by
  subst hR
  exact ⟨fb, rfl, hb, hn, hf⟩
theorem ParQ.good {n0 : Nat} {w w' : World} {cfg : List Int} {v : Value} {C : List (St × Value)} {R : Except Flt3 (List Int × List St)} (hR : R = .ok (cfg, C.map Prod.fst)) (hl : cfg.length = 11) (hv : StepsV w' n0 v C) (hf : Fr [] w w') : ParQ n0 w R (.returned (.tuple #[.agg (scrC cfg v), .nilIface])) w' := by
  subst hR
  exact ⟨v, C, rfl, hl, rfl, hv, hf⟩
theorem scrOk_zero : scrOk #[.int .i64 0, .int .i64 0, .int .i64 0, .int .i64 0, .int .i64 0, .int .i64 0, .int .i64 0, .int .i64 0, .int .i64 0, .int .i64 0, .int .i64 0, .slice none 0 0] = true := by kernel_rfl
set_option maxRecDepth 100000 in
set_option maxHeartbeats 8000000 in
theorem parse_long (w : World) (t : ByteArray) (h : 4194304 < t.size) :
    Calls Tryz.prog 4 #[.string t] w fun e w' => ParQ w.heap.size w (parseP t) e w' := by
  have hR : parseP t = .error (0, 0, 4) := by unfold parseP; rw [if_pos h]
  rw [hR]
  have k1 : (4194304 : Int) < (t.size : Int) := by omega
  have zo := scrOk_zero
  have hb0 := Blk.new w #[.int .i64 0, .int .i64 0, .int .i64 0, .int .i64 0, .int .i64 0, .int .i64 0, .int .i64 0, .int .i64 0, .int .i64 0, .int .i64 0, .int .i64 0, .slice none 0 0] 26
  have q1 : can12 ((w.alloc (.cells #[.int .i64 0, .int .i64 0, .int .i64 0, .int .i64 0, .int .i64 0, .int .i64 0, .int .i64 0, .int .i64 0, .int .i64 0, .int .i64 0, .int .i64 0, .slice none 0 0] 26)).alloc (.cells #[.int .i64 0, .int .i64 0, .int .i64 4] 43)) w.heap.size = true := (hb0.alloc _).can12 rfl
  obtain ⟨w1, hw1⟩ : ∃ w1, layA ((w.alloc (.cells #[.int .i64 0, .int .i64 0, .int .i64 0, .int .i64 0, .int .i64 0, .int .i64 0, .int .i64 0, .int .i64 0, .int .i64 0, .int .i64 0, .int .i64 0, .slice none 0 0] 26)).alloc (.cells #[.int .i64 0, .int .i64 0, .int .i64 4] 43)) w.heap.size #[.int .i64 0, .int .i64 0, .int .i64 0, .int .i64 0, .int .i64 0, .int .i64 0, .int .i64 0, .int .i64 0, .int .i64 0, .int .i64 0, .int .i64 0, .slice none 0 0] = w1 := ⟨_, rfl⟩
  have hb1 : Blk w1 w.heap.size #[.int .i64 0, .int .i64 0, .int .i64 0, .int .i64 0, .int .i64 0, .int .i64 0, .int .i64 0, .int .i64 0, .int .i64 0, .int .i64 0, .int .i64 0, .slice none 0 0] 26 := by rw [← hw1]; exact (hb0.alloc _).layA rfl _ rfl
  have hf1 : Blk w1 (w.heap.size + 1) #[.int .i64 0, .int .i64 0, .int .i64 4] 43 := by
    rw [← hw1]
    unfold Blk layA
    rw [heap_layA _ _ _ _ (by omega)]
    exact Blk.new_at (by simp) _ _
  have hr1 : Fr [] w w1 := by rw [← hw1]; exact (((Fr.refl [] w).alloc _).alloc _).layA _ _ (.inr (Nat.le_refl _))
  have H1 := Lib.hid (And.intro hb1 (And.intro hf1 hr1))
  have HW1 := Lib.hid hw1
  clear h hR hw1 hb1 hf1 hr1 hb0
  go_enter Tryz.func4, Tryz.ntmps4
  go_wp2_with fail
  rw [HW1.out]
  exact bodyPost_ret (results_scr rfl _ _ w.heap.size _ _ rfl rfl (H1.out.1.scr rfl)) rfl (ParQ.bad rfl H1.out.2.1 (by omega) H1.out.2.2)
theorem fin_ok {cfg : List Int} {L : List St} (h : checkE cfg L = 0) : fin (.ok (cfg, L)) = .ok (cfg, L) := by
  show (if checkE cfg L ≠ 0 then _ else _) = _
  rw [if_neg (by rw [h]; simp)]
theorem fin_bad {cfg : List Int} {L : List St} (h : checkE cfg L ≠ 0) : fin (.ok (cfg, L)) = .error (0, 0, checkE cfg L) := by
  show (if checkE cfg L ≠ 0 then _ else _) = _
  rw [if_pos h]
theorem eleven {l : List Int} (h : l.length = 11) : ∃ v0 v1 v2 v3 v4 v5 v6 v7 v8 v9 v10, l = [v0, v1, v2, v3, v4, v5, v6, v7, v8, v9, v10] := by
  match l, h with
  | [v0, v1, v2, v3, v4, v5, v6, v7, v8, v9, v10], _ => exact ⟨_, _, _, _, _, _, _, _, _, _, _, rfl⟩
theorem goP_none {k : Nat} {l : List UInt8} (cfg : List Int) (L : List St) (h : cutAt 10 l = none) : goP k (pieces 10 l) cfg L = .error (k, 0, 283) := by
  rw [pieces_not (cutAt_none h), goP]
theorem pieces_nil {b : List UInt8} : pieces 10 b = [[]] ↔ b = [] := by
  constructor
  · intro h
    have := join_pieces 10 b
    rw [h, Lib.join_one] at this
    exact this.symm
  · rintro rfl; rfl
theorem goP_some {k : Nat} {l a b : List UInt8} (cfg : List Int) (L : List St) (h : cutAt 10 l = some (a, b)) : goP k (pieces 10 l) cfg L =
    if 2 < k ∧ fld (lineB a) 0 = endB then
      match overF (lineB a) 1 with
      | some q => .error (k, q.1, q.2)
      | none => if b = [] then .ok (cfg, L) else .error (k + 1, 0, 283)
    else match lineF k (lineB a) with
      | some q => .error (k, q.1, q.2)
      | none => goP (k + 1) (pieces 10 b) (nextCfg k (lineB a) cfg) (nextSt k (lineB a) L) := by
  rw [pieces_cut h]
  obtain ⟨m, r, hp⟩ := List.exists_cons_of_ne_nil (pieces_ne 10 b)
  rw [hp, goP]
  by_cases hb : b = []
  · rw [if_pos (show m :: r = [[]] by rw [← hp]; exact pieces_nil.2 hb), if_pos hb]
    rfl
  · rw [if_neg (show ¬ m :: r = [[]] by rw [← hp]; exact fun q => hb (pieces_nil.1 q)), if_neg hb]
    rfl
/-- What holds at a line's head. -/
structure PI (w : World) (rb sc k : Nat) (l : ByteArray) (cfg : List Int) (v : Value) (C : List (St × Value)) (W : World) : Prop where
  zb : Blk W rb zeroScr 26
  sb : Blk W sc (scrC cfg v) 26
  len : cfg.length = 11
  st : StepsV W w.heap.size v C
  kd : ∀ x ∈ C, x.1.kd < 256
  ck : C.length ≤ k
  k1 : 1 ≤ k
  sz : k + l.size ≤ 4194305
  ne : rb ≠ sc
  lo : w.heap.size ≤ rb ∧ w.heap.size ≤ sc
  fr : Fr [] w W
/-- A region that makes a fault and lays the empty script. -/
structure DrQ (w0 : World) (rb : Nat) (cs : Array Value) (tb ti tr ib ii ir : Nat) (p : Nat → Prop) (f : Nat → Option Value) (W : World) : Prop where
  fr : Fr [rb] w0 W
  zb : Blk W rb zeroScr 26
  b : p ib → ∃ b, f tb = some (.pointer (some ⟨b, 0, none⟩)) ∧ Blk W b cs 43 ∧ w0.heap.size ≤ b
  i : p ii → ∃ b, f ti = some (.iface 42 (.pointer (some ⟨b, 0, none⟩))) ∧ Blk W b cs 43 ∧ w0.heap.size ≤ b
  r : p ir → ∃ b, f tr = some (.iface 42 (.pointer (some ⟨b, 0, none⟩))) ∧ Blk W b cs 43 ∧ w0.heap.size ≤ b
section
variable {w0 W W' : World} {rb tb ti tr ib ii ir j : Nat} {cs : Array Value} {p : Nat → Prop} {f g : Nat → Option Value}
theorem DrQ.start (h : Blk w0 rb zeroScr 26) : DrQ w0 rb cs tb ti tr ib ii ir (fun _ => False) f w0.drew := ⟨(Fr.refl _ _).drew, h.drew, fun h => h.elim, fun h => h.elim, fun h => h.elim⟩
theorem DrQ.go (h : Blk W rb zeroScr 26) (fr : Fr [rb] W W') {x : Option Value} {y : Nat → Value} (hx : ∃ b, x = some (y b) ∧ Blk W b cs 43 ∧ w0.heap.size ≤ b) : ∃ b, x = some (y b) ∧ Blk W' b cs 43 ∧ w0.heap.size ≤ b := by
  obtain ⟨b, h1, h2, h3⟩ := hx
  exact ⟨b, h1, fr.blk h2 (by have := h2.ne h (by decide); simp; omega), h3⟩
theorem DrQ.go2 (h : Blk W rb zeroScr 26) (fr : Fr [rb] W W') {x x' : Option Value} (e : x' = x) {y : Nat → Value} (hx : ∃ b, x = some (y b) ∧ Blk W b cs 43 ∧ w0.heap.size ≤ b) : ∃ b, x' = some (y b) ∧ Blk W' b cs 43 ∧ w0.heap.size ≤ b := by
  rw [e]; exact DrQ.go h fr hx
theorem DrQ.keep (h : DrQ w0 rb cs tb ti tr ib ii ir p f W) (fr : Fr [rb] W W') (hz : Blk W' rb zeroScr 26) (h1 : ib ≠ j) (h2 : ii ≠ j) (h3 : ir ≠ j) (e1 : g tb = f tb) (e2 : g ti = f ti) (e3 : g tr = f tr) : DrQ w0 rb cs tb ti tr ib ii ir (fun k => p k ∨ k = j) g W' :=
  ⟨h.fr.trans fr (fun x hx => .inl hx), hz, fun q => by rw [e1]; exact DrQ.go h.zb fr (y := fun b => .pointer (some ⟨b, 0, none⟩)) (h.b (q.resolve_right h1)), fun q => by rw [e2]; exact DrQ.go h.zb fr (y := fun b => .iface 42 (.pointer (some ⟨b, 0, none⟩))) (h.i (q.resolve_right h2)), fun q => by rw [e3]; exact DrQ.go h.zb fr (y := fun b => .iface 42 (.pointer (some ⟨b, 0, none⟩))) (h.r (q.resolve_right h3))⟩
end
set_option maxRecDepth 100000 in
set_option maxHeartbeats 16000000 in
theorem parse_go (w : World) (t : ByteArray) (m : Int) (hm : w.cell? ⟨1, 0, none⟩ = some (.int .i64 m)) (h : t.size ≤ 4194304) :
    Calls Tryz.prog 4 #[.string t] w fun e w' => ParQ w.heap.size w (parseP t) e w' := by
  obtain ⟨R, hR⟩ : ∃ R, R = parseP t := ⟨_, rfl⟩
  rw [← hR]
  have HR := Lib.hid (show R = fin (goP 1 (pieces 10 t.data.toList) zeros []) by rw [hR]; unfold parseP; rw [if_neg (by omega)])
  have k1 : (t.size : Int) ≤ 4194304 := by omega
  have HT := Lib.hid h
  have HM := Lib.hid (show ∀ W, Fr [] w W → W.cell? ⟨1, 0, none⟩ = some (.int .i64 m) from fun W f => (f.cell (World.block_lt_of_cell? w _ hm) (by simp)).trans hm)
  have HLI := Lib.hid (fun W r gF sc n F cfg v C h hF hFs hs hc hv hC hn hn0 => line_any W r gF sc n w.heap.size F cfg v C h hF hFs hs hc hv hC hn hn0)
  clear hm h hR
  obtain ⟨rb, hrb⟩ : ∃ rb, rb = w.heap.size := ⟨_, rfl⟩
  have HRB := Lib.hid hrb
  have HB0 := Lib.hid (Blk.new_at hrb #[.int .i64 0, .int .i64 0, .int .i64 0, .int .i64 0, .int .i64 0, .int .i64 0, .int .i64 0, .int .i64 0, .int .i64 0, .int .i64 0, .int .i64 0, .slice none 0 0] 26)
  clear hrb
  go_enter Tryz.func4, Tryz.ntmps4
  go_wp2_with fail
  rw [← HRB.out]
  obtain ⟨sc, hsc⟩ : ∃ sc, sc = (w.alloc (.cells #[.int .i64 0, .int .i64 0, .int .i64 0, .int .i64 0, .int .i64 0, .int .i64 0, .int .i64 0, .int .i64 0, .int .i64 0, .int .i64 0, .int .i64 0, .slice none 0 0] 26)).heap.size := ⟨_, rfl⟩
  have HSC := Lib.hid hsc
  have hb1 := Blk.new_at hsc #[.int .i64 0, .int .i64 0, .int .i64 0, .int .i64 0, .int .i64 0, .int .i64 0, .int .i64 0, .int .i64 0, .int .i64 0, .int .i64 0, .int .i64 0, .slice none 0 0] 26
  rw [show rb + 1 = sc from by rw [hsc, HRB.out]; simp]
  obtain ⟨w1, hw1⟩ : ∃ w1, (w.alloc (.cells #[.int .i64 0, .int .i64 0, .int .i64 0, .int .i64 0, .int .i64 0, .int .i64 0, .int .i64 0, .int .i64 0, .int .i64 0, .int .i64 0, .int .i64 0, .slice none 0 0] 26)).alloc (.cells #[.int .i64 0, .int .i64 0, .int .i64 0, .int .i64 0, .int .i64 0, .int .i64 0, .int .i64 0, .int .i64 0, .int .i64 0, .int .i64 0, .int .i64 0, .slice none 0 0] 26) = w1 := ⟨_, rfl⟩
  have H1 := Lib.hid (show PI w rb sc 1 t zeros (.slice none 0 0) [] w1 from by
    rw [← hw1]
    exact ⟨HB0.out.alloc _, hb1, rfl, ⟨World.ownsRow_nil _ _ _ _, by simp [Value.ownBlock], by simp⟩, by simp, by simp, by omega, by have := HT.out; omega, by rw [hsc, HRB.out]; simp, ⟨by rw [HRB.out]; exact Nat.le_refl _, by rw [hsc]; simp⟩, ((Fr.refl [] w).alloc _).alloc _⟩)
  rw [hw1]
  clear hsc hb1 hw1
  go_loopw [5, 6] (fun n l wr => ∃ (k : Nat) (tl : ByteArray) (cfg : List Int) (v : Value) (C : List (St × Value)), n = .int .i64 k ∧ l = .string tl ∧ PI w rb sc k tl cfg v C wr ∧ R = fin (goP k (pieces 10 tl.data.toList) cfg (C.map Prod.fst))) (fun _ l _ => match l with | .string s => s.size | _ => 0)
  case atStart => exact ⟨1, t, zeros, .slice none 0 0, [], rfl, rfl, H1.out, HR.out⟩
  case round =>
    obtain ⟨k, tl, cfg, v, C, rfl, rfl, hI, hR⟩ := hrel
    obtain ⟨wi, hwi⟩ : ∃ wi : World, wi = wr := ⟨_, rfl⟩
    rw [← hwi] at hI ⊢
    clear hwi
    have HI := Lib.hid (And.intro hI hR)
    have HCUT := Lib.hid (Tryz.strings_Cut tl ⟨#[10]⟩ m wi (by have := hI.sz; omega) (HM.out wi hI.fr))
    rw [show (⟨#[10]⟩ : ByteArray).data.toList = [10] from rfl, cut_cut] at HCUT
    have kk1 : (k : Int) ≤ 4194305 := by have := hI.sz; omega
    have kk0 : (1 : Int) ≤ (k : Int) := by have := hI.k1; omega
    clear hI hR
    cases hcut : cutAt 10 tl.data.toList with
    | none =>
      rw [hcut] at HCUT
      have HE := Lib.hid (show R = .error (k, 0, 283) by rw [HI.out.2, goP_none _ _ hcut]; rfl)
      clear hcut
      go_wp2_with fail
      (with_reducible refine HCUT.out.mono ?_)
      rintro e w2 ⟨rfl, nd, hw2⟩
      have hf2 : Fr [] wi w2 := by rw [hw2]; exact (Fr.refl _ _).drewN _
      have hb2 := hf2.blk HI.out.1.zb (by simp)
      have q1 : can12 (w2.alloc (.cells #[.int .i64 k, .int .i64 0, .int .i64 283] 43)) rb = true := (hb2.alloc _).can12 rfl
      have zo := scrOk_zero
      obtain ⟨w3, hw3⟩ : ∃ w3, layA (w2.alloc (.cells #[.int .i64 k, .int .i64 0, .int .i64 283] 43)) rb #[.int .i64 0, .int .i64 0, .int .i64 0, .int .i64 0, .int .i64 0, .int .i64 0, .int .i64 0, .int .i64 0, .int .i64 0, .int .i64 0, .int .i64 0, .slice none 0 0] = w3 := ⟨_, rfl⟩
      have H3 := Lib.hid (show Blk w3 rb #[.int .i64 0, .int .i64 0, .int .i64 0, .int .i64 0, .int .i64 0, .int .i64 0, .int .i64 0, .int .i64 0, .int .i64 0, .int .i64 0, .int .i64 0, .slice none 0 0] 26 ∧ Blk w3 w2.heap.size #[.int .i64 k, .int .i64 0, .int .i64 283] 43 ∧ Fr [rb] w2 w3 from by
        rw [← hw3]
        refine ⟨(hb2.alloc _).layA rfl _ rfl, ?_, ((Fr.refl [rb] w2).alloc _).layA _ _ (.inl (by simp))⟩
        unfold Blk layA
        rw [heap_layA _ _ _ _ (by have := hb2.lt; omega)]
        exact Blk.new _ _ _)
      have HF2 := Lib.hid hf2
      have HW3 := Lib.hid hw3
      clear hw2 hf2 hb2 hw3
      go_wp2_with fail
      rw [HW3.out]
      refine bodyPost_ret (results_scr rfl _ _ rb _ _ rfl rfl (H3.out.1.scr rfl)) rfl (ParQ.bad HE.out H3.out.2.1 ?_ ?_)
      · exact Nat.le_trans HI.out.1.fr.size HF2.out.size
      · exact (HI.out.1.fr.trans HF2.out (by simp)).trans H3.out.2.2 (fun x hx => .inr (by have := HI.out.1.lo.1; simp at hx; omega))
    | some ab =>
      obtain ⟨a, b⟩ := ab
      rw [hcut] at HCUT
      have HG := Lib.hid (goP_some (k := k) cfg (C.map Prod.fst) hcut)
      have hlen : tl.size = a.length + 1 + b.length := by
        have := (cutAt_some hcut).1
        have h2 : tl.size = tl.data.toList.length := (Array.length_toList (xs := tl.data)).symm
        rw [h2, this]; simp; omega
      obtain ⟨la, hla⟩ : ∃ la : ByteArray, la = ⟨a.toArray⟩ := ⟨_, rfl⟩
      obtain ⟨lb, hlb⟩ : ∃ lb : ByteArray, lb = ⟨b.toArray⟩ := ⟨_, rfl⟩
      have hlbs : lb.size = b.length := by rw [hlb]; simp [ByteArray.size]
      have hlas : la.size = a.length := by rw [hla]; simp [ByteArray.size]
      have HCU := Lib.hid (show Calls Tryz.prog 10 #[.string tl, .string ⟨#[10]⟩] wi fun e w' => e = .returned (.tuple #[.string la, .string lb, .bool true]) ∧ ∃ n, w' = wi.drewN n from by rw [hla, hlb]; exact HCUT.out)
      have hbl : lb.data.toList = b := by rw [hlb]
      have hF : lineB a = fieldsB la := by unfold lineB; rw [hla]
      have HAB := Lib.hid (show tl.size = la.size + 1 + lb.size ∧ lb.data.toList = b ∧ lineB a = fieldsB la ∧ la.size ≤ 4194305 from ⟨by omega, hbl, hF, by have := HI.out.1.sz; omega⟩)
      clear hcut HCUT hlen hla hlb hlbs hlas hbl hF
      go_wp2_with fail
      (with_reducible refine HCU.out.mono ?_)
      rintro e w2 ⟨rfl, nd, hw2⟩
      have hf2 : Fr [] wi w2 := by rw [hw2]; exact (Fr.refl _ _).drewN _
      have HSP := Lib.hid (Tryz.strings_Split la ⟨#[32]⟩ m w2 (by have := HAB.out.2.2.2; omega) (HM.out w2 (HI.out.1.fr.trans hf2 (by simp))) (by decide))
      rw [splitB_fields, splitB_count] at HSP
      have HF2 := Lib.hid hf2
      clear hw2 hf2
      go_wp2_with fail
      (with_reducible refine HSP.out.mono ?_)
      rintro e w3 ⟨rfl, hw3⟩
      have HW3 := Lib.hid hw3
      clear hw3
      obtain ⟨F, hF⟩ : ∃ F, F = fieldsB la := ⟨_, rfl⟩
      have HF := Lib.hid hF
      rw [← hF]
      clear hF
      go_upto_region 11 with fail
      obtain ⟨gF, hgF⟩ : ∃ gF, gF = w2.heap.size := ⟨_, rfl⟩
      obtain ⟨r, hr⟩ : ∃ r, r = w3.heap.size := ⟨_, rfl⟩
      rw [← hgF, ← hr]
      obtain ⟨w4, hw4⟩ : ∃ w4, w3.alloc (.cells #[.slice (some ⟨gF, 0, none⟩) F.length F.length, .int .i64 0] 49) = w4 := ⟨_, rfl⟩
      have f3 : Fr [] w2 w3 := by rw [HW3.out]; exact (Fr.refl _ _).alloc _
      have f4 : Fr [] w2 w4 := by rw [← hw4]; exact f3.alloc _
      have hbF : Blk w3 gF (strs F).toArray 9 := by rw [HW3.out, HF.out]; exact Blk.new_at hgF _ _
      have hFl : F.length ≤ 4294967296 := by rw [HF.out]; have := fieldsB_len la; have := HAB.out.2.2.2; omega
      have hrow : RowAt w4 r gF F 0 := ⟨by rw [← hw4]; exact Blk.new_at hr _ _, by rw [← hw4]; exact hbF.alloc _, Nat.zero_le _, hFl⟩
      have hF0 : 0 < F.length := by rw [HF.out]; exact fieldsB_pos la
      have hFs : ∀ s ∈ F, s.size ≤ 4294967296 := fun s hs => by rw [HF.out] at hs; have := fieldsB_size hs; have := HAB.out.2.2.2; omega
      have hf4 := HF2.out.trans f4 (by simp)
      have hzb := hf4.blk HI.out.1.zb (by simp)
      have hsb := hf4.blk HI.out.1.sb (by simp)
      have hr4 : Fr [] w w4 := HI.out.1.fr.trans hf4 (by simp)
      have hst4 := HI.out.1.st.fr hf4
      have hgc : w.heap.size ≤ r ∧ w.heap.size ≤ gF := ⟨by rw [hr]; exact Nat.le_trans HI.out.1.fr.size (Nat.le_trans HF2.out.size f3.size), by rw [hgF]; exact Nat.le_trans HI.out.1.fr.size HF2.out.size⟩
      have hGG : goP k (pieces 10 tl.data.toList) cfg (C.map Prod.fst) =
        if 2 < k ∧ fld F 0 = endB then
          match overF F 1 with
          | some q => .error (k, q.1, q.2)
          | none => if b = [] then .ok (cfg, C.map Prod.fst) else .error (k + 1, 0, 283)
        else match lineF k F with
          | some q => .error (k, q.1, q.2)
          | none => goP (k + 1) (pieces 10 b) (nextCfg k F cfg) (nextSt k F (C.map Prod.fst)) := by
        have := HG.out
        rw [HAB.out.2.2.1, ← HF.out] at this
        exact this
      have H4 := Lib.hid (show RowAt w4 r gF F 0 ∧ Blk w4 rb zeroScr 26 ∧ Blk w4 sc (scrC cfg v) 26 ∧ StepsV w4 w.heap.size v C ∧ Fr [] w w4 ∧ 0 < F.length ∧ (∀ s ∈ F, s.size ≤ 4294967296) ∧ (w.heap.size ≤ r ∧ w.heap.size ≤ gF) from ⟨hrow, hzb, hsb, hst4, hr4, hF0, hFs, hgc⟩)
      have HGG := Lib.hid hGG
      have c0 := hrow.hd.at 0 (v := .slice (some ⟨gF, 0, none⟩) F.length F.length) rfl
      have c1 := hrow.hd.at 1 (v := .int .i64 0) rfl
      have g1 := hrow.hd.free 1
      have cs : w4.cell? ⟨gF, 0, none⟩ = some (.string (fld F 0)) := hrow.at (by unfold fld; rw [List.getD_eq_getElem?_getD, List.getElem?_eq_getElem hF0, Option.getD_some])
      have kF : (0 : Int) < (F.length : Int) := by omega
      obtain ⟨N, hN⟩ : ∃ N, N = F.length := ⟨_, rfl⟩
      have HN := Lib.hid hN
      obtain ⟨s0, hs0⟩ : ∃ s0, s0 = fld F 0 := ⟨_, rfl⟩
      have HS0 := Lib.hid hs0
      rw [← hs0] at cs
      rw [hw4]
      rw [← hN] at c0 kF ⊢
      have HW4 := Lib.hid hw4
      have HRG := Lib.hid (And.intro hgF hr)
      clear hr hgF
      clear hw4 f3 f4 hbF hFl hrow hF0 hFs hf4 hzb hsb hr4 hst4 hgc hGG hN hs0 HG HW3
      by_cases he : 2 < k ∧ s0 = endB
      · have e1 : (s0.toList == (⟨#[101, 110, 100]⟩ : ByteArray).toList) = true := beq_is he.2
        have e2 : (s0.toList == [101, 110, 100]) = true := by rw [he.2]; kernel_rfl
        have k3 : (2 : Int) < (k : Int) := by omega
        have HE := Lib.hid (show R = fin (match overF F 1 with | some q => .error (k, q.1, q.2) | none => if b = [] then .ok (cfg, C.map Prod.fst) else .error (k + 1, 0, 283)) by rw [HI.out.2, HGG.out, if_pos ⟨he.1, by rw [← HS0.out]; exact he.2⟩])
        obtain ⟨w5, hw5⟩ : ∃ w5, w4.setCell ⟨r, 1, none⟩ (.int .i64 1) = w5 := ⟨_, rfl⟩
        have f5 : Fr [r] w4 w5 := by rw [← hw5]; exact (Fr.refl _ _).setCell _ _ (.inl (by simp))
        have H5 := Lib.hid (show RowAt w5 r gF F 1 ∧ Fr [r] w4 w5 from ⟨by rw [← hw5]; exact H4.out.1.set 1 H4.out.2.2.2.2.2.1, f5⟩)
        have HW5 := Lib.hid hw5
        clear he hw5 f5
        go_upto_region 13 with fail
        rw [HW5.out]
        clear c0 c1 g1 cs
        go_wp2_with fail
        (with_reducible refine (over_any _ r gF 1 F H5.out.1).mono ?_)
        rintro e w6 ⟨fv, rfl, hp⟩
        have f6 : Fr [r] w4 w6 := H5.out.2.trans hp.2.2 (fun x hx => .inl hx)
        have hner : r ≠ rb ∧ r ≠ sc := ⟨H4.out.1.hd.ne H4.out.2.1 (by decide), H4.out.1.hd.ne H4.out.2.2.1 (by decide)⟩
        have hzb6 := f6.blk H4.out.2.1 (by have := hner.1; simp; omega)
        have hsb6 := f6.blk H4.out.2.2.1 (by have := hner.2; simp; omega)
        have hst6 : StepsV w6 w.heap.size v C := ⟨own_fr H4.out.2.2.2.1.own f6 (fun g hg hm => by simp at hm; subst hm; exact own_ne H4.out.2.2.2.1.own hg H4.out.1.hd (by decide) rfl), H4.out.2.2.2.1.blk, fun x hx => (H4.out.2.2.2.1.byt x hx).fr' f6 (fun g hg hm => by simp at hm; subst hm; exact (H4.out.2.2.2.1.byt x hx).ne H4.out.1.hd (by decide) g hg rfl)⟩
        have hr6 : Fr [] w w6 := H4.out.2.2.2.2.1.trans f6 (fun x hx => .inr (by have := H4.out.2.2.2.2.2.2.2.1; simp at hx; omega))
        have H6 := Lib.hid (And.intro hzb6 (And.intro hsb6 (And.intro hst6 hr6)))
        have HS5 := Lib.hid (show w.heap.size ≤ w5.heap.size from Nat.le_trans H4.out.2.2.2.2.1.size H5.out.2.size)
        clear f6 hner hzb6 hsb6 hst6 hr6
        cases ho : overF F 1 with
        | some qq =>
          rw [ho] at hp
          obtain ⟨fb, rfl, hb, hn⟩ : ∃ b, fv = .pointer (some ⟨b, 0, none⟩) ∧ Blk w6 b #[.int .i64 qq.1, .int .i64 qq.2] 53 ∧ w5.heap.size ≤ b := hp.2.1
          have HB := Lib.hid hb
          have HEE := Lib.hid (show R = .error (k, qq.1, qq.2) by rw [HE.out, ho]; rfl)
          clear hp hb hn ho
          go_wp2_with fail
          refine region_chg (by kernel_rfl) (by kernel_rfl) [some (.agg #[.int .i64 0, .int .i64 0, .int .i64 0, .int .i64 0, .int .i64 0, .int .i64 0, .int .i64 0, .int .i64 0, .int .i64 0, .int .i64 0, .int .i64 0, .slice none 0 0]), some (.int .i64 k), some (.pointer (some ⟨fb, 0, none⟩)), some (.pointer (some ⟨fb, 0, none⟩)), some (.pointer (some ⟨fb, 0, none⟩)), some (.int .i64 qq.1), some (.pointer (some ⟨fb, 0, none⟩)), some (.pointer (some ⟨fb, 0, none⟩)), some (.pointer (some ⟨fb, 1, none⟩)), some (.int .i64 qq.2), some (.agg #[.int .i64 k, .int .i64 qq.1, .int .i64 qq.2]), none, none, none, none] (DrQ w6 rb #[.int .i64 k, .int .i64 qq.1, .int .i64 qq.2] 65 66 3 11 12 14) 102 rfl (by kernel_rfl) [(0, 54), (1, 55), (2, 56), (3, 57), (4, 58), (5, 59), (6, 60), (7, 61), (8, 62), (9, 63), (10, 64), (11, 65), (12, 66), (14, 3)] (by kernel_rfl) (DrQ.start H6.out.1) ?_ ?_
          · intro q a1 W1 i hi hnq hd hG K hK
            have hlt : i < 15 := hi
            have hc : i = 0 ∨ i = 1 ∨ i = 2 ∨ i = 3 ∨ i = 4 ∨ i = 5 ∨ i = 6 ∨ i = 7 ∨ i = 8 ∨ i = 9 ∨ i = 10 ∨ i = 11 ∨ i = 12 ∨ i = 13 ∨ i = 14 := by omega
            have hΨ := hG.world
            rcases hc with rfl | rfl | rfl | rfl | rfl | rfl | rfl | rfl | rfl | rfl | rfl | rfl | rfl | rfl | rfl
            · refine op_doC rfl (wanted_none rfl) hK (fun K' hK' => ?_)
              unfold Oper.wp
              go_simp
              exact hK' _ _ (fun u hu => by cases hu; rfl) (hΨ.keep (Fr.refl _ _) hΨ.zb (by decide) (by decide) (by decide) (put_ne (by decide) _) (put_ne (by decide) _) (put_ne (by decide) _))
            · have e5 := hG.old 5 (by kernel_rfl)
              refine op_doC rfl (wanted_none rfl) hK (fun K' hK' => ?_)
              unfold Oper.wp
              go_simp
              exact hK' _ _ (fun u hu => by cases hu; rfl) (hΨ.keep (Fr.refl _ _) hΨ.zb (by decide) (by decide) (by decide) (put_ne (by decide) _) (put_ne (by decide) _) (put_ne (by decide) _))
            · have e11 := hG.old 11 (by kernel_rfl)
              refine op_doC rfl (wanted_none rfl) hK (fun K' hK' => ?_)
              unfold Oper.wp
              go_simp
              exact hK' _ _ (fun u hu => by cases hu; rfl) (hΨ.keep (Fr.refl _ _) hΨ.zb (by decide) (by decide) (by decide) (put_ne (by decide) _) (put_ne (by decide) _) (put_ne (by decide) _))
            · have e56 := hG.val (v := .pointer (some ⟨fb, 0, none⟩)) 2 56 (hd _ rfl ⟨2, .data⟩ (by simp) rfl) rfl rfl
              refine op_doC rfl (wanted_none rfl) hK (fun K' hK' => ?_)
              unfold Oper.wp
              go_simp
              exact hK' _ _ (fun u hu => by cases hu; rfl) (hΨ.keep (Fr.refl _ _) hΨ.zb (by decide) (by decide) (by decide) (put_ne (by decide) _) (put_ne (by decide) _) (put_ne (by decide) _))
            · have e57 := hG.val (v := .pointer (some ⟨fb, 0, none⟩)) 3 57 (hd _ rfl ⟨3, .data⟩ (by simp) rfl) rfl rfl
              refine op_doC rfl (wanted_none rfl) hK (fun K' hK' => ?_)
              unfold Oper.wp
              go_simp
              exact hK' _ _ (fun u hu => by cases hu; rfl) (hΨ.keep (Fr.refl _ _) hΨ.zb (by decide) (by decide) (by decide) (put_ne (by decide) _) (put_ne (by decide) _) (put_ne (by decide) _))
            · have e58 := hG.val (v := .pointer (some ⟨fb, 0, none⟩)) 4 58 (hd _ rfl ⟨4, .data⟩ (by simp) rfl) rfl rfl
              have hfb := hΨ.fr.blk HB.out (by have := HB.out.ne H6.out.1 (by decide); simp; omega)
              have c := hfb.at 0 (v := .int .i64 qq.1) rfl
              refine op_doC rfl (wanted_none rfl) hK (fun K' hK' => ?_)
              unfold Oper.wp
              go_simp
              exact hK' _ _ (fun u hu => by cases hu; rfl) (hΨ.keep (Fr.refl _ _) hΨ.zb (by decide) (by decide) (by decide) (put_ne (by decide) _) (put_ne (by decide) _) (put_ne (by decide) _))
            · have e11 := hG.old 11 (by kernel_rfl)
              refine op_doC rfl (wanted_none rfl) hK (fun K' hK' => ?_)
              unfold Oper.wp
              go_simp
              exact hK' _ _ (fun u hu => by cases hu; rfl) (hΨ.keep (Fr.refl _ _) hΨ.zb (by decide) (by decide) (by decide) (put_ne (by decide) _) (put_ne (by decide) _) (put_ne (by decide) _))
            · have e60 := hG.val (v := .pointer (some ⟨fb, 0, none⟩)) 6 60 (hd _ rfl ⟨6, .data⟩ (by simp) rfl) rfl rfl
              refine op_doC rfl (wanted_none rfl) hK (fun K' hK' => ?_)
              unfold Oper.wp
              go_simp
              exact hK' _ _ (fun u hu => by cases hu; rfl) (hΨ.keep (Fr.refl _ _) hΨ.zb (by decide) (by decide) (by decide) (put_ne (by decide) _) (put_ne (by decide) _) (put_ne (by decide) _))
            · have e61 := hG.val (v := .pointer (some ⟨fb, 0, none⟩)) 7 61 (hd _ rfl ⟨7, .data⟩ (by simp) rfl) rfl rfl
              refine op_doC rfl (wanted_none rfl) hK (fun K' hK' => ?_)
              unfold Oper.wp
              go_simp
              exact hK' _ _ (fun u hu => by cases hu; rfl) (hΨ.keep (Fr.refl _ _) hΨ.zb (by decide) (by decide) (by decide) (put_ne (by decide) _) (put_ne (by decide) _) (put_ne (by decide) _))
            · have e62 := hG.val (v := .pointer (some ⟨fb, 1, none⟩)) 8 62 (hd _ rfl ⟨8, .data⟩ (by simp) rfl) rfl rfl
              have hfb := hΨ.fr.blk HB.out (by have := HB.out.ne H6.out.1 (by decide); simp; omega)
              have c := hfb.at 1 (v := .int .i64 qq.2) rfl
              refine op_doC rfl (wanted_none rfl) hK (fun K' hK' => ?_)
              unfold Oper.wp
              go_simp
              exact hK' _ _ (fun u hu => by cases hu; rfl) (hΨ.keep (Fr.refl _ _) hΨ.zb (by decide) (by decide) (by decide) (put_ne (by decide) _) (put_ne (by decide) _) (put_ne (by decide) _))
            · have e55 := hG.val (v := .int .i64 k) 1 55 (hd _ rfl ⟨1, .data⟩ (by simp) rfl) rfl rfl
              have e59 := hG.val (v := .int .i64 qq.1) 5 59 (hd _ rfl ⟨5, .data⟩ (by simp) rfl) rfl rfl
              have e63 := hG.val (v := .int .i64 qq.2) 9 63 (hd _ rfl ⟨9, .data⟩ (by simp) rfl) rfl rfl
              refine op_doC rfl (wanted_none rfl) hK (fun K' hK' => ?_)
              unfold Oper.wp
              go_simp
              exact hK' _ _ (fun u hu => by cases hu; rfl) (hΨ.keep (Fr.refl _ _) hΨ.zb (by decide) (by decide) (by decide) (put_ne (by decide) _) (put_ne (by decide) _) (put_ne (by decide) _))
            · have e64 := hG.val (v := .agg #[.int .i64 k, .int .i64 qq.1, .int .i64 qq.2]) 10 64 (hd _ rfl ⟨10, .data⟩ (by simp) rfl) rfl rfl
              refine op_doC rfl (wanted_none rfl) hK (fun K' hK' => ?_)
              unfold Oper.wp
              go_simp
              have hfr : Fr [rb] W1 (W1.alloc (.cells #[.int .i64 k, .int .i64 qq.1, .int .i64 qq.2] 43)) := (Fr.refl _ _).alloc _
              exact hK' _ _ (fun u hu => by cases hu) ⟨hΨ.fr.alloc _, hΨ.zb.alloc _, fun _ => ⟨W1.heap.size, put_eq (by rw [hG.size]; exact Nat.lt_of_lt_of_eq (by decide : 65 < 102) rfl) _, Blk.new _ _ _, hΨ.fr.size⟩, fun z => DrQ.go2 hΨ.zb hfr (put_ne (by decide) _) (y := fun b => .iface 42 (.pointer (some ⟨b, 0, none⟩))) (hΨ.i (z.resolve_right (by decide))), fun z => DrQ.go2 hΨ.zb hfr (put_ne (by decide) _) (y := fun b => .iface 42 (.pointer (some ⟨b, 0, none⟩))) (hΨ.r (z.resolve_right (by decide)))⟩
            · obtain ⟨bb, e65, hbb, hnb⟩ := hΨ.b (hd _ rfl ⟨11, .data⟩ (by simp) rfl)
              refine op_doC rfl (wanted_none rfl) hK (fun K' hK' => ?_)
              unfold Oper.wp
              go_simp
              have hfr : Fr [rb] W1 W1 := Fr.refl _ _
              exact hK' _ _ (fun u hu => by cases hu) ⟨hΨ.fr, hΨ.zb, fun z => DrQ.go2 hΨ.zb hfr (put_ne (by decide) _) (y := fun b => .pointer (some ⟨b, 0, none⟩)) (hΨ.b (z.resolve_right (by decide))), fun _ => ⟨bb, put_eq (by rw [hG.size]; exact Nat.lt_of_lt_of_eq (by decide : 66 < 102) rfl) _, hbb, hnb⟩, fun z => DrQ.go2 hΨ.zb hfr (put_ne (by decide) _) (y := fun b => .iface 42 (.pointer (some ⟨b, 0, none⟩))) (hΨ.r (z.resolve_right (by decide)))⟩
            · have e2 := hG.old 2 (by kernel_rfl)
              have e54 := hG.val (v := .agg #[.int .i64 0, .int .i64 0, .int .i64 0, .int .i64 0, .int .i64 0, .int .i64 0, .int .i64 0, .int .i64 0, .int .i64 0, .int .i64 0, .int .i64 0, .slice none 0 0]) 0 54 (hd _ rfl ⟨0, .data⟩ (by simp) rfl) rfl rfl
              have q3 := hΨ.zb.can12 rfl
              have zo := scrOk_zero
              refine op_doC rfl (wanted_none rfl) hK (fun K' hK' => ?_)
              unfold Oper.wp
              go_simp
              have hl : Fr [rb] W1 (layA W1 rb #[.int .i64 0, .int .i64 0, .int .i64 0, .int .i64 0, .int .i64 0, .int .i64 0, .int .i64 0, .int .i64 0, .int .i64 0, .int .i64 0, .int .i64 0, .slice none 0 0]) := (Fr.refl _ _).layA _ _ (.inl (by simp))
              exact hK' undef _ (fun u hu => by cases hu) (hΨ.keep hl (hΨ.zb.layA rfl _ rfl) (by decide) (by decide) (by decide) rfl rfl rfl)
            · obtain ⟨bb, e66, hbb, hnb⟩ := hΨ.i (hd _ rfl ⟨12, .data⟩ (by simp) rfl)
              refine op_doC rfl (wanted_none rfl) hK (fun K' hK' => ?_)
              unfold Oper.wp
              go_simp
              have hfr : Fr [rb] W1 W1 := Fr.refl _ _
              exact hK' _ _ (fun u hu => by cases hu) ⟨hΨ.fr, hΨ.zb, fun z => DrQ.go2 hΨ.zb hfr (put_ne (by decide) _) (y := fun b => .pointer (some ⟨b, 0, none⟩)) (hΨ.b (z.resolve_right (by decide))), fun z => DrQ.go2 hΨ.zb hfr (put_ne (by decide) _) (y := fun b => .iface 42 (.pointer (some ⟨b, 0, none⟩))) (hΨ.i (z.resolve_right (by decide))), fun _ => ⟨bb, put_eq (by rw [hG.size]; exact Nat.lt_of_lt_of_eq (by decide : 3 < 102) rfl) _, hbb, hnb⟩⟩
          · intro vs q W1 hq hΨ hv
            have r0 : vs 0 = .agg #[.int .i64 0, .int .i64 0, .int .i64 0, .int .i64 0, .int .i64 0, .int .i64 0, .int .i64 0, .int .i64 0, .int .i64 0, .int .i64 0, .int .i64 0, .slice none 0 0] := hv 0 54 _ (by decide) rfl rfl
            have r1 : vs 1 = .int .i64 k := hv 1 55 _ (by decide) rfl rfl
            have r2 : vs 2 = .pointer (some ⟨fb, 0, none⟩) := hv 2 56 _ (by decide) rfl rfl
            have r3 : vs 3 = .pointer (some ⟨fb, 0, none⟩) := hv 3 57 _ (by decide) rfl rfl
            have r4 : vs 4 = .pointer (some ⟨fb, 0, none⟩) := hv 4 58 _ (by decide) rfl rfl
            have r5 : vs 5 = .int .i64 qq.1 := hv 5 59 _ (by decide) rfl rfl
            have r6 : vs 6 = .pointer (some ⟨fb, 0, none⟩) := hv 6 60 _ (by decide) rfl rfl
            have r7 : vs 7 = .pointer (some ⟨fb, 0, none⟩) := hv 7 61 _ (by decide) rfl rfl
            have r8 : vs 8 = .pointer (some ⟨fb, 1, none⟩) := hv 8 62 _ (by decide) rfl rfl
            have r9 : vs 9 = .int .i64 qq.2 := hv 9 63 _ (by decide) rfl rfl
            have r10 : vs 10 = .agg #[.int .i64 k, .int .i64 qq.1, .int .i64 qq.2] := hv 10 64 _ (by decide) rfl rfl
            simp only [lay, List.foldl_cons, List.foldl_nil, r0, r1, r2, r3, r4, r5, r6, r7, r8, r9, r10] at hΨ ⊢
            simp only [List.setIfInBounds_toArray, List.set_cons_zero, List.set_cons_succ] at hΨ ⊢
            clear hv r0 r1 r2 r3 r4 r5 r6 r7 r8 r9 r10
            generalize vs 11 = x11 at *
            generalize vs 12 = x12 at *
            generalize vs 14 = x14 at *
            obtain ⟨bb, hbe, hbb, hnb⟩ := hΨ.r (hq 14 (by decide))
            have hbe : x14 = .iface 42 (.pointer (some ⟨bb, 0, none⟩)) := by simpa using hbe
            subst hbe
            have HDR := Lib.hid (And.intro hΨ.fr (And.intro hΨ.zb (And.intro hbb hnb)))
            clear hΨ hbb hnb hq
            go_wp2_with fail
            refine bodyPost_ret (results_scr rfl _ _ rb _ _ rfl rfl (HDR.out.2.1.scr rfl)) rfl (ParQ.bad HEE.out HDR.out.2.2.1 ?_ ?_)
            · exact Nat.le_trans H6.out.2.2.2.size HDR.out.2.2.2
            · exact H6.out.2.2.2.trans HDR.out.1 (fun x hx => .inr (by have := HI.out.1.lo.1; simp at hx; omega))
        | none =>
          rw [ho] at hp
          obtain rfl : fv = .pointer none := hp.2.1
          have HEE := Lib.hid (show R = fin (if b = [] then .ok (cfg, C.map Prod.fst) else .error (k + 1, 0, 283)) by rw [HE.out, ho])
          clear hp ho
          by_cases hbn : b = []
          · have hlb : lb = ⟨#[]⟩ := by
              have := HAB.out.2.1
              rw [hbn] at this
              cases lb with | mk d => simp at this; rw [this]
            have e3 : (lb.toList != []) = false := by rw [hlb]; kernel_rfl
            have e4 : (lb.toList == (⟨#[]⟩ : ByteArray).toList) = true := by rw [hlb]; kernel_rfl
            have e5 : (lb.toList == []) = true := by rw [hlb]; kernel_rfl
            have HE2 := Lib.hid (show R = fin (.ok (cfg, C.map Prod.fst)) by rw [HEE.out, if_pos hbn])
            obtain ⟨p, c, hv⟩ := own_form H6.out.2.2.1.own
            obtain ⟨v0, v1, v2, v3, v4, v5, v6, v7, v8, v9, v10, hcfg⟩ : ∃ v0 v1 v2 v3 v4 v5 v6 v7 v8 v9 v10, cfg = [v0, v1, v2, v3, v4, v5, v6, v7, v8, v9, v10] := eleven HI.out.1.len
            have HCF := Lib.hid (And.intro hcfg hv)
            have HCH := Lib.hid (show Calls Tryz.prog 14 #[.agg (scrC cfg v)] w6 fun e w' => e = .returned (.int .i64 (checkE cfg (C.map Prod.fst))) ∧ Fr [] w6 w' from by
              rw [hcfg]
              exact check_any w6 w.heap.size _ _ _ _ _ _ _ _ _ _ _ v C H6.out.2.2.1 HI.out.1.kd (by have := HI.out.1.ck; have := HI.out.1.sz; omega))
            have q1 := H6.out.2.1.scr (scrC_size HI.out.1.len)
            clear hbn hlb hv hcfg
            obtain ⟨E, hE⟩ : ∃ E, E = checkE cfg (C.map Prod.fst) := ⟨_, rfl⟩
            rw [← hE] at HCH
            have HEQ := Lib.hid hE
            clear hE
            go_wp2_with fail
            (with_reducible refine HCH.out.mono ?_)
            rintro e w7 ⟨rfl, f7⟩
            have H7 := Lib.hid (show Blk w7 rb zeroScr 26 ∧ Blk w7 sc (scrC cfg v) 26 ∧ StepsV w7 w.heap.size v C ∧ Fr [] w w7 from ⟨f7.blk H6.out.1 (by simp), f7.blk H6.out.2.1 (by simp), H6.out.2.2.1.fr f7, H6.out.2.2.2.trans f7 (by simp)⟩)
            clear q1 f7
            by_cases hz : E = 0
            · have z1 : (E != 0) = false := by rw [hz]; rfl
              have HE3 := Lib.hid (show R = .ok (cfg, C.map Prod.fst) by rw [HE2.out, fin_ok (by rw [← HEQ.out, hz])])
              have q2 := H7.out.2.1.scr (scrC_size HI.out.1.len)
              have q3 := H7.out.1.can12 rfl
              have q4 : scrOk (scrC cfg v) = true := scrC_ok HI.out.1.len (by rw [HCF.out.2]; rfl)
              clear hz
              go_wp2_with fail
              have hl : Fr [rb] w7 (layA w7 rb (scrC cfg v)) := (Fr.refl _ _).layA _ _ (.inl (by simp))
              refine bodyPost_ret (results_scr rfl _ _ rb _ _ rfl rfl ((H7.out.1.layA rfl _ (scrC_size HI.out.1.len)).scr (scrC_size HI.out.1.len))) rfl (ParQ.good HE3.out HI.out.1.len ?_ ?_)
              · exact ⟨own_fr H7.out.2.2.1.own hl (fun g hg hm => by simp at hm; subst hm; exact own_ne H7.out.2.2.1.own hg H7.out.1 (by decide) rfl), H7.out.2.2.1.blk, fun x hx => (H7.out.2.2.1.byt x hx).fr' hl (fun g hg hm => by simp at hm; subst hm; exact (H7.out.2.2.1.byt x hx).ne H7.out.1 (by decide) g hg rfl)⟩
              · exact H7.out.2.2.2.trans hl (fun x hx => .inr (by have := HI.out.1.lo.1; simp at hx; omega))
            · have z1 : (E != 0) = true := by rw [bne_iff_ne]; exact hz
              have HE3 := Lib.hid (show R = .error (0, 0, E) by rw [HE2.out, fin_bad (by rw [← HEQ.out]; exact hz), ← HEQ.out])
              have zo := scrOk_zero
              have q3 : can12 (w7.alloc (.cells #[.int .i64 0, .int .i64 0, .int .i64 E] 43)) rb = true := (H7.out.1.alloc _).can12 rfl
              clear hz
              go_wp2_with fail
              have hl : Fr [rb] w7 (layA (w7.alloc (.cells #[.int .i64 0, .int .i64 0, .int .i64 E] 43)) rb #[.int .i64 0, .int .i64 0, .int .i64 0, .int .i64 0, .int .i64 0, .int .i64 0, .int .i64 0, .int .i64 0, .int .i64 0, .int .i64 0, .int .i64 0, .slice none 0 0]) := ((Fr.refl _ _).alloc _).layA _ _ (.inl (by simp))
              refine bodyPost_ret (results_scr rfl _ _ rb _ _ rfl rfl (((H7.out.1.alloc _).layA rfl _ rfl).scr rfl)) rfl (ParQ.bad HE3.out (fb := w7.heap.size) ?_ ?_ ?_)
              · unfold Blk layA
                rw [heap_layA _ _ _ _ (by have := H7.out.1.lt; omega)]
                exact Blk.new _ _ _
              · exact H7.out.2.2.2.size
              · exact H7.out.2.2.2.trans hl (fun x hx => .inr (by have := HI.out.1.lo.1; simp at hx; omega))
          · have hlb : lb ≠ ⟨#[]⟩ := fun q => hbn (by rw [← HAB.out.2.1, q])
            have e4 : (lb.toList == (⟨#[]⟩ : ByteArray).toList) = false := beq_not hlb
            have e5 : (lb.toList == []) = false := by rw [← e4]; rw [ByteArray.toList_eq (⟨#[]⟩ : ByteArray)]
            have e3 : (lb.toList != []) = true := by rw [bne, e5]; rfl
            have HE2 := Lib.hid (show R = .error (k + 1, 0, 283) by rw [HEE.out, if_neg hbn]; rfl)
            have zo := scrOk_zero
            have q3 : can12 (w6.alloc (.cells #[.int .i64 ((k : Int) + 1), .int .i64 0, .int .i64 283] 43)) rb = true := (H6.out.1.alloc _).can12 rfl
            clear hbn hlb
            go_wp2_with fail
            have hl : Fr [rb] w6 (layA (w6.alloc (.cells #[.int .i64 ((k : Int) + 1), .int .i64 0, .int .i64 283] 43)) rb #[.int .i64 0, .int .i64 0, .int .i64 0, .int .i64 0, .int .i64 0, .int .i64 0, .int .i64 0, .int .i64 0, .int .i64 0, .int .i64 0, .int .i64 0, .slice none 0 0]) := ((Fr.refl _ _).alloc _).layA _ _ (.inl (by simp))
            refine bodyPost_ret (results_scr rfl _ _ rb _ _ rfl rfl (((H6.out.1.alloc _).layA rfl _ rfl).scr rfl)) rfl (ParQ.bad HE2.out (fb := w6.heap.size) ?_ ?_ ?_)
            · unfold Blk layA
              rw [heap_layA _ _ _ _ (by have := H6.out.1.lt; omega)]
              exact Blk.new _ _ _
            · exact H6.out.2.2.2.size
            · exact H6.out.2.2.2.trans hl (fun x hx => .inr (by have := HI.out.1.lo.1; simp at hx; omega))
      · have HE := Lib.hid (show R = fin (match lineF k F with | some q => .error (k, q.1, q.2) | none => goP (k + 1) (pieces 10 b) (nextCfg k F cfg) (nextSt k F (C.map Prod.fst))) by rw [HI.out.2, HGG.out, if_neg (by rw [← HS0.out]; exact he)])
        have HLC := Lib.hid (HLI.out w4 r gF sc k F cfg v C H4.out.1 H4.out.2.2.2.2.2.1 H4.out.2.2.2.2.2.2.1 H4.out.2.2.1 HI.out.1.len H4.out.2.2.2.1 (by have := HI.out.1.ck; have := HI.out.1.sz; omega) HI.out.1.k1 H4.out.2.2.2.2.1.size)
        have e6 : (decide ((2 : Int) < (k : Int)) && (s0.toList == (⟨#[101, 110, 100]⟩ : ByteArray).toList)) = false := by
          rw [Bool.and_eq_false_iff]
          by_cases hk2 : 2 < k
          · exact .inr (beq_not (fun q => he ⟨hk2, q⟩))
          · exact .inl (decide_eq_false (by omega))
        by_cases hk2 : 2 < k
        · have k3 : (2 : Int) < (k : Int) := by omega
          have e1 : (s0.toList == (⟨#[101, 110, 100]⟩ : ByteArray).toList) = false := beq_not (fun q => he ⟨hk2, q⟩)
          have e2 : (s0.toList == [101, 110, 100]) = false := by rw [← e1]; rw [ByteArray.toList_eq (⟨#[101, 110, 100]⟩ : ByteArray)]
          clear he hk2 e6
          go_wp2_with fail
          (with_reducible refine HLC.out.mono ?_)
          rintro e w5 ⟨fv, rfl, hp, hf5, hok⟩
          clear c0 c1 g1 cs
          have hS : ∀ x ∈ r :: sc :: v.ownBlock.toList, w.heap.size ≤ x ∧ x ≠ rb := fun x hx => by
            simp only [List.mem_cons, Option.mem_toList] at hx
            rcases hx with rfl | rfl | hx
            · exact ⟨H4.out.2.2.2.2.2.2.2.1, H4.out.1.hd.ne H4.out.2.1 (by decide)⟩
            · exact ⟨HI.out.1.lo.2, fun q => HI.out.1.ne q.symm⟩
            · exact ⟨HI.out.1.st.blk x hx, fun q => by subst q; exact own_ne H4.out.2.2.2.1.own hx H4.out.2.1 (by decide) rfl⟩
          have hzb5 := hf5.blk H4.out.2.1 (fun hm => (hS _ hm).2 rfl)
          have hr5 : Fr [] w w5 := H4.out.2.2.2.2.1.trans hf5 (fun x hx => .inr (hS x hx).1)
          have H6 := Lib.hid (And.intro hzb5 hr5)
          have HOK := Lib.hid hok
          clear hzb5 hr5 hf5 hS hok
          cases ho : lineF k F with
          | some qq =>
            rw [ho] at hp
            obtain ⟨fb, rfl, hb, hn⟩ : ∃ b, fv = .pointer (some ⟨b, 0, none⟩) ∧ Blk w5 b #[.int .i64 qq.1, .int .i64 qq.2] 53 ∧ w4.heap.size ≤ b := hp
            have HB := Lib.hid hb
            have HEE := Lib.hid (show R = .error (k, qq.1, qq.2) by rw [HE.out, ho]; rfl)
            clear hb hn ho
            go_wp2_with fail
            refine region_chg (by kernel_rfl) (by kernel_rfl) [some (.agg #[.int .i64 0, .int .i64 0, .int .i64 0, .int .i64 0, .int .i64 0, .int .i64 0, .int .i64 0, .int .i64 0, .int .i64 0, .int .i64 0, .int .i64 0, .slice none 0 0]), some (.int .i64 k), some (.pointer (some ⟨fb, 0, none⟩)), some (.pointer (some ⟨fb, 0, none⟩)), some (.pointer (some ⟨fb, 0, none⟩)), some (.int .i64 qq.1), some (.pointer (some ⟨fb, 0, none⟩)), some (.pointer (some ⟨fb, 0, none⟩)), some (.pointer (some ⟨fb, 1, none⟩)), some (.int .i64 qq.2), some (.agg #[.int .i64 k, .int .i64 qq.1, .int .i64 qq.2]), none, none, none, none] (DrQ w5 rb #[.int .i64 k, .int .i64 qq.1, .int .i64 qq.2] 90 91 3 11 12 14) 102 rfl (by kernel_rfl) [(0, 79), (1, 80), (2, 81), (3, 82), (4, 83), (5, 84), (6, 85), (7, 86), (8, 87), (9, 88), (10, 89), (11, 90), (12, 91), (14, 3)] (by kernel_rfl) (DrQ.start H6.out.1) ?_ ?_
            · intro q a1 W1 i hi hnq hd hG K hK
              have hlt : i < 15 := hi
              have hc : i = 0 ∨ i = 1 ∨ i = 2 ∨ i = 3 ∨ i = 4 ∨ i = 5 ∨ i = 6 ∨ i = 7 ∨ i = 8 ∨ i = 9 ∨ i = 10 ∨ i = 11 ∨ i = 12 ∨ i = 13 ∨ i = 14 := by omega
              have hΨ := hG.world
              rcases hc with rfl | rfl | rfl | rfl | rfl | rfl | rfl | rfl | rfl | rfl | rfl | rfl | rfl | rfl | rfl
              · refine op_doC rfl (wanted_none rfl) hK (fun K' hK' => ?_)
                unfold Oper.wp
                go_simp
                exact hK' _ _ (fun u hu => by cases hu; rfl) (hΨ.keep (Fr.refl _ _) hΨ.zb (by decide) (by decide) (by decide) (put_ne (by decide) _) (put_ne (by decide) _) (put_ne (by decide) _))
              · have e5 := hG.old 5 (by kernel_rfl)
                refine op_doC rfl (wanted_none rfl) hK (fun K' hK' => ?_)
                unfold Oper.wp
                go_simp
                exact hK' _ _ (fun u hu => by cases hu; rfl) (hΨ.keep (Fr.refl _ _) hΨ.zb (by decide) (by decide) (by decide) (put_ne (by decide) _) (put_ne (by decide) _) (put_ne (by decide) _))
              · have e12 := hG.old 12 (by kernel_rfl)
                refine op_doC rfl (wanted_none rfl) hK (fun K' hK' => ?_)
                unfold Oper.wp
                go_simp
                exact hK' _ _ (fun u hu => by cases hu; rfl) (hΨ.keep (Fr.refl _ _) hΨ.zb (by decide) (by decide) (by decide) (put_ne (by decide) _) (put_ne (by decide) _) (put_ne (by decide) _))
              · have e81 := hG.val (v := .pointer (some ⟨fb, 0, none⟩)) 2 81 (hd _ rfl ⟨2, .data⟩ (by simp) rfl) rfl rfl
                refine op_doC rfl (wanted_none rfl) hK (fun K' hK' => ?_)
                unfold Oper.wp
                go_simp
                exact hK' _ _ (fun u hu => by cases hu; rfl) (hΨ.keep (Fr.refl _ _) hΨ.zb (by decide) (by decide) (by decide) (put_ne (by decide) _) (put_ne (by decide) _) (put_ne (by decide) _))
              · have e82 := hG.val (v := .pointer (some ⟨fb, 0, none⟩)) 3 82 (hd _ rfl ⟨3, .data⟩ (by simp) rfl) rfl rfl
                refine op_doC rfl (wanted_none rfl) hK (fun K' hK' => ?_)
                unfold Oper.wp
                go_simp
                exact hK' _ _ (fun u hu => by cases hu; rfl) (hΨ.keep (Fr.refl _ _) hΨ.zb (by decide) (by decide) (by decide) (put_ne (by decide) _) (put_ne (by decide) _) (put_ne (by decide) _))
              · have e83 := hG.val (v := .pointer (some ⟨fb, 0, none⟩)) 4 83 (hd _ rfl ⟨4, .data⟩ (by simp) rfl) rfl rfl
                have hfb := hΨ.fr.blk HB.out (by have := HB.out.ne H6.out.1 (by decide); simp; omega)
                have c := hfb.at 0 (v := .int .i64 qq.1) rfl
                refine op_doC rfl (wanted_none rfl) hK (fun K' hK' => ?_)
                unfold Oper.wp
                go_simp
                exact hK' _ _ (fun u hu => by cases hu; rfl) (hΨ.keep (Fr.refl _ _) hΨ.zb (by decide) (by decide) (by decide) (put_ne (by decide) _) (put_ne (by decide) _) (put_ne (by decide) _))
              · have e12 := hG.old 12 (by kernel_rfl)
                refine op_doC rfl (wanted_none rfl) hK (fun K' hK' => ?_)
                unfold Oper.wp
                go_simp
                exact hK' _ _ (fun u hu => by cases hu; rfl) (hΨ.keep (Fr.refl _ _) hΨ.zb (by decide) (by decide) (by decide) (put_ne (by decide) _) (put_ne (by decide) _) (put_ne (by decide) _))
              · have e85 := hG.val (v := .pointer (some ⟨fb, 0, none⟩)) 6 85 (hd _ rfl ⟨6, .data⟩ (by simp) rfl) rfl rfl
                refine op_doC rfl (wanted_none rfl) hK (fun K' hK' => ?_)
                unfold Oper.wp
                go_simp
                exact hK' _ _ (fun u hu => by cases hu; rfl) (hΨ.keep (Fr.refl _ _) hΨ.zb (by decide) (by decide) (by decide) (put_ne (by decide) _) (put_ne (by decide) _) (put_ne (by decide) _))
              · have e86 := hG.val (v := .pointer (some ⟨fb, 0, none⟩)) 7 86 (hd _ rfl ⟨7, .data⟩ (by simp) rfl) rfl rfl
                refine op_doC rfl (wanted_none rfl) hK (fun K' hK' => ?_)
                unfold Oper.wp
                go_simp
                exact hK' _ _ (fun u hu => by cases hu; rfl) (hΨ.keep (Fr.refl _ _) hΨ.zb (by decide) (by decide) (by decide) (put_ne (by decide) _) (put_ne (by decide) _) (put_ne (by decide) _))
              · have e87 := hG.val (v := .pointer (some ⟨fb, 1, none⟩)) 8 87 (hd _ rfl ⟨8, .data⟩ (by simp) rfl) rfl rfl
                have hfb := hΨ.fr.blk HB.out (by have := HB.out.ne H6.out.1 (by decide); simp; omega)
                have c := hfb.at 1 (v := .int .i64 qq.2) rfl
                refine op_doC rfl (wanted_none rfl) hK (fun K' hK' => ?_)
                unfold Oper.wp
                go_simp
                exact hK' _ _ (fun u hu => by cases hu; rfl) (hΨ.keep (Fr.refl _ _) hΨ.zb (by decide) (by decide) (by decide) (put_ne (by decide) _) (put_ne (by decide) _) (put_ne (by decide) _))
              · have e80 := hG.val (v := .int .i64 k) 1 80 (hd _ rfl ⟨1, .data⟩ (by simp) rfl) rfl rfl
                have e84 := hG.val (v := .int .i64 qq.1) 5 84 (hd _ rfl ⟨5, .data⟩ (by simp) rfl) rfl rfl
                have e88 := hG.val (v := .int .i64 qq.2) 9 88 (hd _ rfl ⟨9, .data⟩ (by simp) rfl) rfl rfl
                refine op_doC rfl (wanted_none rfl) hK (fun K' hK' => ?_)
                unfold Oper.wp
                go_simp
                exact hK' _ _ (fun u hu => by cases hu; rfl) (hΨ.keep (Fr.refl _ _) hΨ.zb (by decide) (by decide) (by decide) (put_ne (by decide) _) (put_ne (by decide) _) (put_ne (by decide) _))
              · have e89 := hG.val (v := .agg #[.int .i64 k, .int .i64 qq.1, .int .i64 qq.2]) 10 89 (hd _ rfl ⟨10, .data⟩ (by simp) rfl) rfl rfl
                refine op_doC rfl (wanted_none rfl) hK (fun K' hK' => ?_)
                unfold Oper.wp
                go_simp
                have hfr : Fr [rb] W1 (W1.alloc (.cells #[.int .i64 k, .int .i64 qq.1, .int .i64 qq.2] 43)) := (Fr.refl _ _).alloc _
                exact hK' _ _ (fun u hu => by cases hu) ⟨hΨ.fr.alloc _, hΨ.zb.alloc _, fun _ => ⟨W1.heap.size, put_eq (by rw [hG.size]; exact Nat.lt_of_lt_of_eq (by decide : 90 < 102) rfl) _, Blk.new _ _ _, hΨ.fr.size⟩, fun z => DrQ.go2 hΨ.zb hfr (put_ne (by decide) _) (y := fun b => .iface 42 (.pointer (some ⟨b, 0, none⟩))) (hΨ.i (z.resolve_right (by decide))), fun z => DrQ.go2 hΨ.zb hfr (put_ne (by decide) _) (y := fun b => .iface 42 (.pointer (some ⟨b, 0, none⟩))) (hΨ.r (z.resolve_right (by decide)))⟩
              · obtain ⟨bb, e90, hbb, hnb⟩ := hΨ.b (hd _ rfl ⟨11, .data⟩ (by simp) rfl)
                refine op_doC rfl (wanted_none rfl) hK (fun K' hK' => ?_)
                unfold Oper.wp
                go_simp
                have hfr : Fr [rb] W1 W1 := Fr.refl _ _
                exact hK' _ _ (fun u hu => by cases hu) ⟨hΨ.fr, hΨ.zb, fun z => DrQ.go2 hΨ.zb hfr (put_ne (by decide) _) (y := fun b => .pointer (some ⟨b, 0, none⟩)) (hΨ.b (z.resolve_right (by decide))), fun _ => ⟨bb, put_eq (by rw [hG.size]; exact Nat.lt_of_lt_of_eq (by decide : 91 < 102) rfl) _, hbb, hnb⟩, fun z => DrQ.go2 hΨ.zb hfr (put_ne (by decide) _) (y := fun b => .iface 42 (.pointer (some ⟨b, 0, none⟩))) (hΨ.r (z.resolve_right (by decide)))⟩
              · have e2 := hG.old 2 (by kernel_rfl)
                have e79 := hG.val (v := .agg #[.int .i64 0, .int .i64 0, .int .i64 0, .int .i64 0, .int .i64 0, .int .i64 0, .int .i64 0, .int .i64 0, .int .i64 0, .int .i64 0, .int .i64 0, .slice none 0 0]) 0 79 (hd _ rfl ⟨0, .data⟩ (by simp) rfl) rfl rfl
                have q3 := hΨ.zb.can12 rfl
                have zo := scrOk_zero
                refine op_doC rfl (wanted_none rfl) hK (fun K' hK' => ?_)
                unfold Oper.wp
                go_simp
                have hl : Fr [rb] W1 (layA W1 rb #[.int .i64 0, .int .i64 0, .int .i64 0, .int .i64 0, .int .i64 0, .int .i64 0, .int .i64 0, .int .i64 0, .int .i64 0, .int .i64 0, .int .i64 0, .slice none 0 0]) := (Fr.refl _ _).layA _ _ (.inl (by simp))
                exact hK' undef _ (fun u hu => by cases hu) (hΨ.keep hl (hΨ.zb.layA rfl _ rfl) (by decide) (by decide) (by decide) rfl rfl rfl)
              · obtain ⟨bb, e91, hbb, hnb⟩ := hΨ.i (hd _ rfl ⟨12, .data⟩ (by simp) rfl)
                refine op_doC rfl (wanted_none rfl) hK (fun K' hK' => ?_)
                unfold Oper.wp
                go_simp
                have hfr : Fr [rb] W1 W1 := Fr.refl _ _
                exact hK' _ _ (fun u hu => by cases hu) ⟨hΨ.fr, hΨ.zb, fun z => DrQ.go2 hΨ.zb hfr (put_ne (by decide) _) (y := fun b => .pointer (some ⟨b, 0, none⟩)) (hΨ.b (z.resolve_right (by decide))), fun z => DrQ.go2 hΨ.zb hfr (put_ne (by decide) _) (y := fun b => .iface 42 (.pointer (some ⟨b, 0, none⟩))) (hΨ.i (z.resolve_right (by decide))), fun _ => ⟨bb, put_eq (by rw [hG.size]; exact Nat.lt_of_lt_of_eq (by decide : 3 < 102) rfl) _, hbb, hnb⟩⟩
            · intro vs q W1 hq hΨ hv
              have r0 : vs 0 = .agg #[.int .i64 0, .int .i64 0, .int .i64 0, .int .i64 0, .int .i64 0, .int .i64 0, .int .i64 0, .int .i64 0, .int .i64 0, .int .i64 0, .int .i64 0, .slice none 0 0] := hv 0 79 _ (by decide) rfl rfl
              have r1 : vs 1 = .int .i64 k := hv 1 80 _ (by decide) rfl rfl
              have r2 : vs 2 = .pointer (some ⟨fb, 0, none⟩) := hv 2 81 _ (by decide) rfl rfl
              have r3 : vs 3 = .pointer (some ⟨fb, 0, none⟩) := hv 3 82 _ (by decide) rfl rfl
              have r4 : vs 4 = .pointer (some ⟨fb, 0, none⟩) := hv 4 83 _ (by decide) rfl rfl
              have r5 : vs 5 = .int .i64 qq.1 := hv 5 84 _ (by decide) rfl rfl
              have r6 : vs 6 = .pointer (some ⟨fb, 0, none⟩) := hv 6 85 _ (by decide) rfl rfl
              have r7 : vs 7 = .pointer (some ⟨fb, 0, none⟩) := hv 7 86 _ (by decide) rfl rfl
              have r8 : vs 8 = .pointer (some ⟨fb, 1, none⟩) := hv 8 87 _ (by decide) rfl rfl
              have r9 : vs 9 = .int .i64 qq.2 := hv 9 88 _ (by decide) rfl rfl
              have r10 : vs 10 = .agg #[.int .i64 k, .int .i64 qq.1, .int .i64 qq.2] := hv 10 89 _ (by decide) rfl rfl
              simp only [lay, List.foldl_cons, List.foldl_nil, r0, r1, r2, r3, r4, r5, r6, r7, r8, r9, r10] at hΨ ⊢
              simp only [List.setIfInBounds_toArray, List.set_cons_zero, List.set_cons_succ] at hΨ ⊢
              clear hv r0 r1 r2 r3 r4 r5 r6 r7 r8 r9 r10
              generalize vs 11 = x11 at *
              generalize vs 12 = x12 at *
              generalize vs 14 = x14 at *
              obtain ⟨bb, hbe, hbb, hnb⟩ := hΨ.r (hq 14 (by decide))
              have hbe : x14 = .iface 42 (.pointer (some ⟨bb, 0, none⟩)) := by simpa using hbe
              subst hbe
              have HDR := Lib.hid (And.intro hΨ.fr (And.intro hΨ.zb (And.intro hbb hnb)))
              clear hΨ hbb hnb hq
              go_wp2_with fail
              refine bodyPost_ret (results_scr rfl _ _ rb _ _ rfl rfl (HDR.out.2.1.scr rfl)) rfl (ParQ.bad HEE.out HDR.out.2.2.1 ?_ ?_)
              · exact Nat.le_trans H6.out.2.size HDR.out.2.2.2
              · exact H6.out.2.trans HDR.out.1 (fun x hx => .inr (by have := HI.out.1.lo.1; simp at hx; omega))
          | none =>
            rw [ho] at hp
            obtain rfl : fv = .pointer none := hp
            have HEE := Lib.hid (show R = fin (goP (k + 1) (pieces 10 b) (nextCfg k F cfg) (nextSt k F (C.map Prod.fst))) by rw [HE.out, ho])
            have HO2 := Lib.hid (HOK.out ho)
            clear ho
            go_wp2_with fail
            obtain ⟨v2, C2, q1, q2, q3, q4⟩ := HO2.out
            have hI := HI.out.1
            have hlen : C2.length ≤ C.length + 1 := by
              have := congrArg List.length q4
              rw [List.length_map] at this
              rw [this]
              unfold nextSt
              split <;> simp
            have hkd : ∀ x ∈ C2, x.1.kd < 256 := fun x hx => by
              have hm : x.1 ∈ C2.map Prod.fst := List.mem_map_of_mem hx
              rw [q4] at hm
              unfold nextSt at hm
              split at hm
              · rw [List.mem_append, List.mem_singleton] at hm
                rcases hm with hm | hm
                · obtain ⟨y, hy, he⟩ := List.mem_map.1 hm
                  rw [← he]; exact hI.kd y hy
                · rw [hm]; exact stepS_kd F
              · obtain ⟨y, hy, he⟩ := List.mem_map.1 hm
                rw [← he]; exact hI.kd y hy
            have hsz := hI.sz
            have hck := hI.ck
            have hts := HAB.out.1
            exact ⟨⟨k + 1, lb, nextCfg k F cfg, v2, C2, rfl, rfl, ⟨H6.out.1, q2, q1, q3, hkd, by omega, by omega, by omega, hI.ne, hI.lo, H6.out.2⟩, by rw [HEE.out, HAB.out.2.1, q4]⟩, by show lb.size < tl.size; omega⟩
        · have k3 : ¬ (2 : Int) < (k : Int) := by omega
          clear he hk2 e6
          go_wp2_with fail
          (with_reducible refine HLC.out.mono ?_)
          rintro e w5 ⟨fv, rfl, hp, hf5, hok⟩
          clear c0 c1 g1 cs
          have hS : ∀ x ∈ r :: sc :: v.ownBlock.toList, w.heap.size ≤ x ∧ x ≠ rb := fun x hx => by
            simp only [List.mem_cons, Option.mem_toList] at hx
            rcases hx with rfl | rfl | hx
            · exact ⟨H4.out.2.2.2.2.2.2.2.1, H4.out.1.hd.ne H4.out.2.1 (by decide)⟩
            · exact ⟨HI.out.1.lo.2, fun q => HI.out.1.ne q.symm⟩
            · exact ⟨HI.out.1.st.blk x hx, fun q => by subst q; exact own_ne H4.out.2.2.2.1.own hx H4.out.2.1 (by decide) rfl⟩
          have hzb5 := hf5.blk H4.out.2.1 (fun hm => (hS _ hm).2 rfl)
          have hr5 : Fr [] w w5 := H4.out.2.2.2.2.1.trans hf5 (fun x hx => .inr (hS x hx).1)
          have H6 := Lib.hid (And.intro hzb5 hr5)
          have HOK := Lib.hid hok
          clear hzb5 hr5 hf5 hS hok
          cases ho : lineF k F with
          | some qq =>
            rw [ho] at hp
            obtain ⟨fb, rfl, hb, hn⟩ : ∃ b, fv = .pointer (some ⟨b, 0, none⟩) ∧ Blk w5 b #[.int .i64 qq.1, .int .i64 qq.2] 53 ∧ w4.heap.size ≤ b := hp
            have HB := Lib.hid hb
            have HEE := Lib.hid (show R = .error (k, qq.1, qq.2) by rw [HE.out, ho]; rfl)
            clear hb hn ho
            go_wp2_with fail
            refine region_chg (by kernel_rfl) (by kernel_rfl) [some (.agg #[.int .i64 0, .int .i64 0, .int .i64 0, .int .i64 0, .int .i64 0, .int .i64 0, .int .i64 0, .int .i64 0, .int .i64 0, .int .i64 0, .int .i64 0, .slice none 0 0]), some (.int .i64 k), some (.pointer (some ⟨fb, 0, none⟩)), some (.pointer (some ⟨fb, 0, none⟩)), some (.pointer (some ⟨fb, 0, none⟩)), some (.int .i64 qq.1), some (.pointer (some ⟨fb, 0, none⟩)), some (.pointer (some ⟨fb, 0, none⟩)), some (.pointer (some ⟨fb, 1, none⟩)), some (.int .i64 qq.2), some (.agg #[.int .i64 k, .int .i64 qq.1, .int .i64 qq.2]), none, none, none, none] (DrQ w5 rb #[.int .i64 k, .int .i64 qq.1, .int .i64 qq.2] 90 91 3 11 12 14) 102 rfl (by kernel_rfl) [(0, 79), (1, 80), (2, 81), (3, 82), (4, 83), (5, 84), (6, 85), (7, 86), (8, 87), (9, 88), (10, 89), (11, 90), (12, 91), (14, 3)] (by kernel_rfl) (DrQ.start H6.out.1) ?_ ?_
            · intro q a1 W1 i hi hnq hd hG K hK
              have hlt : i < 15 := hi
              have hc : i = 0 ∨ i = 1 ∨ i = 2 ∨ i = 3 ∨ i = 4 ∨ i = 5 ∨ i = 6 ∨ i = 7 ∨ i = 8 ∨ i = 9 ∨ i = 10 ∨ i = 11 ∨ i = 12 ∨ i = 13 ∨ i = 14 := by omega
              have hΨ := hG.world
              rcases hc with rfl | rfl | rfl | rfl | rfl | rfl | rfl | rfl | rfl | rfl | rfl | rfl | rfl | rfl | rfl
              · refine op_doC rfl (wanted_none rfl) hK (fun K' hK' => ?_)
                unfold Oper.wp
                go_simp
                exact hK' _ _ (fun u hu => by cases hu; rfl) (hΨ.keep (Fr.refl _ _) hΨ.zb (by decide) (by decide) (by decide) (put_ne (by decide) _) (put_ne (by decide) _) (put_ne (by decide) _))
              · have e5 := hG.old 5 (by kernel_rfl)
                refine op_doC rfl (wanted_none rfl) hK (fun K' hK' => ?_)
                unfold Oper.wp
                go_simp
                exact hK' _ _ (fun u hu => by cases hu; rfl) (hΨ.keep (Fr.refl _ _) hΨ.zb (by decide) (by decide) (by decide) (put_ne (by decide) _) (put_ne (by decide) _) (put_ne (by decide) _))
              · have e12 := hG.old 12 (by kernel_rfl)
                refine op_doC rfl (wanted_none rfl) hK (fun K' hK' => ?_)
                unfold Oper.wp
                go_simp
                exact hK' _ _ (fun u hu => by cases hu; rfl) (hΨ.keep (Fr.refl _ _) hΨ.zb (by decide) (by decide) (by decide) (put_ne (by decide) _) (put_ne (by decide) _) (put_ne (by decide) _))
              · have e81 := hG.val (v := .pointer (some ⟨fb, 0, none⟩)) 2 81 (hd _ rfl ⟨2, .data⟩ (by simp) rfl) rfl rfl
                refine op_doC rfl (wanted_none rfl) hK (fun K' hK' => ?_)
                unfold Oper.wp
                go_simp
                exact hK' _ _ (fun u hu => by cases hu; rfl) (hΨ.keep (Fr.refl _ _) hΨ.zb (by decide) (by decide) (by decide) (put_ne (by decide) _) (put_ne (by decide) _) (put_ne (by decide) _))
              · have e82 := hG.val (v := .pointer (some ⟨fb, 0, none⟩)) 3 82 (hd _ rfl ⟨3, .data⟩ (by simp) rfl) rfl rfl
                refine op_doC rfl (wanted_none rfl) hK (fun K' hK' => ?_)
                unfold Oper.wp
                go_simp
                exact hK' _ _ (fun u hu => by cases hu; rfl) (hΨ.keep (Fr.refl _ _) hΨ.zb (by decide) (by decide) (by decide) (put_ne (by decide) _) (put_ne (by decide) _) (put_ne (by decide) _))
              · have e83 := hG.val (v := .pointer (some ⟨fb, 0, none⟩)) 4 83 (hd _ rfl ⟨4, .data⟩ (by simp) rfl) rfl rfl
                have hfb := hΨ.fr.blk HB.out (by have := HB.out.ne H6.out.1 (by decide); simp; omega)
                have c := hfb.at 0 (v := .int .i64 qq.1) rfl
                refine op_doC rfl (wanted_none rfl) hK (fun K' hK' => ?_)
                unfold Oper.wp
                go_simp
                exact hK' _ _ (fun u hu => by cases hu; rfl) (hΨ.keep (Fr.refl _ _) hΨ.zb (by decide) (by decide) (by decide) (put_ne (by decide) _) (put_ne (by decide) _) (put_ne (by decide) _))
              · have e12 := hG.old 12 (by kernel_rfl)
                refine op_doC rfl (wanted_none rfl) hK (fun K' hK' => ?_)
                unfold Oper.wp
                go_simp
                exact hK' _ _ (fun u hu => by cases hu; rfl) (hΨ.keep (Fr.refl _ _) hΨ.zb (by decide) (by decide) (by decide) (put_ne (by decide) _) (put_ne (by decide) _) (put_ne (by decide) _))
              · have e85 := hG.val (v := .pointer (some ⟨fb, 0, none⟩)) 6 85 (hd _ rfl ⟨6, .data⟩ (by simp) rfl) rfl rfl
                refine op_doC rfl (wanted_none rfl) hK (fun K' hK' => ?_)
                unfold Oper.wp
                go_simp
                exact hK' _ _ (fun u hu => by cases hu; rfl) (hΨ.keep (Fr.refl _ _) hΨ.zb (by decide) (by decide) (by decide) (put_ne (by decide) _) (put_ne (by decide) _) (put_ne (by decide) _))
              · have e86 := hG.val (v := .pointer (some ⟨fb, 0, none⟩)) 7 86 (hd _ rfl ⟨7, .data⟩ (by simp) rfl) rfl rfl
                refine op_doC rfl (wanted_none rfl) hK (fun K' hK' => ?_)
                unfold Oper.wp
                go_simp
                exact hK' _ _ (fun u hu => by cases hu; rfl) (hΨ.keep (Fr.refl _ _) hΨ.zb (by decide) (by decide) (by decide) (put_ne (by decide) _) (put_ne (by decide) _) (put_ne (by decide) _))
              · have e87 := hG.val (v := .pointer (some ⟨fb, 1, none⟩)) 8 87 (hd _ rfl ⟨8, .data⟩ (by simp) rfl) rfl rfl
                have hfb := hΨ.fr.blk HB.out (by have := HB.out.ne H6.out.1 (by decide); simp; omega)
                have c := hfb.at 1 (v := .int .i64 qq.2) rfl
                refine op_doC rfl (wanted_none rfl) hK (fun K' hK' => ?_)
                unfold Oper.wp
                go_simp
                exact hK' _ _ (fun u hu => by cases hu; rfl) (hΨ.keep (Fr.refl _ _) hΨ.zb (by decide) (by decide) (by decide) (put_ne (by decide) _) (put_ne (by decide) _) (put_ne (by decide) _))
              · have e80 := hG.val (v := .int .i64 k) 1 80 (hd _ rfl ⟨1, .data⟩ (by simp) rfl) rfl rfl
                have e84 := hG.val (v := .int .i64 qq.1) 5 84 (hd _ rfl ⟨5, .data⟩ (by simp) rfl) rfl rfl
                have e88 := hG.val (v := .int .i64 qq.2) 9 88 (hd _ rfl ⟨9, .data⟩ (by simp) rfl) rfl rfl
                refine op_doC rfl (wanted_none rfl) hK (fun K' hK' => ?_)
                unfold Oper.wp
                go_simp
                exact hK' _ _ (fun u hu => by cases hu; rfl) (hΨ.keep (Fr.refl _ _) hΨ.zb (by decide) (by decide) (by decide) (put_ne (by decide) _) (put_ne (by decide) _) (put_ne (by decide) _))
              · have e89 := hG.val (v := .agg #[.int .i64 k, .int .i64 qq.1, .int .i64 qq.2]) 10 89 (hd _ rfl ⟨10, .data⟩ (by simp) rfl) rfl rfl
                refine op_doC rfl (wanted_none rfl) hK (fun K' hK' => ?_)
                unfold Oper.wp
                go_simp
                have hfr : Fr [rb] W1 (W1.alloc (.cells #[.int .i64 k, .int .i64 qq.1, .int .i64 qq.2] 43)) := (Fr.refl _ _).alloc _
                exact hK' _ _ (fun u hu => by cases hu) ⟨hΨ.fr.alloc _, hΨ.zb.alloc _, fun _ => ⟨W1.heap.size, put_eq (by rw [hG.size]; exact Nat.lt_of_lt_of_eq (by decide : 90 < 102) rfl) _, Blk.new _ _ _, hΨ.fr.size⟩, fun z => DrQ.go2 hΨ.zb hfr (put_ne (by decide) _) (y := fun b => .iface 42 (.pointer (some ⟨b, 0, none⟩))) (hΨ.i (z.resolve_right (by decide))), fun z => DrQ.go2 hΨ.zb hfr (put_ne (by decide) _) (y := fun b => .iface 42 (.pointer (some ⟨b, 0, none⟩))) (hΨ.r (z.resolve_right (by decide)))⟩
              · obtain ⟨bb, e90, hbb, hnb⟩ := hΨ.b (hd _ rfl ⟨11, .data⟩ (by simp) rfl)
                refine op_doC rfl (wanted_none rfl) hK (fun K' hK' => ?_)
                unfold Oper.wp
                go_simp
                have hfr : Fr [rb] W1 W1 := Fr.refl _ _
                exact hK' _ _ (fun u hu => by cases hu) ⟨hΨ.fr, hΨ.zb, fun z => DrQ.go2 hΨ.zb hfr (put_ne (by decide) _) (y := fun b => .pointer (some ⟨b, 0, none⟩)) (hΨ.b (z.resolve_right (by decide))), fun _ => ⟨bb, put_eq (by rw [hG.size]; exact Nat.lt_of_lt_of_eq (by decide : 91 < 102) rfl) _, hbb, hnb⟩, fun z => DrQ.go2 hΨ.zb hfr (put_ne (by decide) _) (y := fun b => .iface 42 (.pointer (some ⟨b, 0, none⟩))) (hΨ.r (z.resolve_right (by decide)))⟩
              · have e2 := hG.old 2 (by kernel_rfl)
                have e79 := hG.val (v := .agg #[.int .i64 0, .int .i64 0, .int .i64 0, .int .i64 0, .int .i64 0, .int .i64 0, .int .i64 0, .int .i64 0, .int .i64 0, .int .i64 0, .int .i64 0, .slice none 0 0]) 0 79 (hd _ rfl ⟨0, .data⟩ (by simp) rfl) rfl rfl
                have q3 := hΨ.zb.can12 rfl
                have zo := scrOk_zero
                refine op_doC rfl (wanted_none rfl) hK (fun K' hK' => ?_)
                unfold Oper.wp
                go_simp
                have hl : Fr [rb] W1 (layA W1 rb #[.int .i64 0, .int .i64 0, .int .i64 0, .int .i64 0, .int .i64 0, .int .i64 0, .int .i64 0, .int .i64 0, .int .i64 0, .int .i64 0, .int .i64 0, .slice none 0 0]) := (Fr.refl _ _).layA _ _ (.inl (by simp))
                exact hK' undef _ (fun u hu => by cases hu) (hΨ.keep hl (hΨ.zb.layA rfl _ rfl) (by decide) (by decide) (by decide) rfl rfl rfl)
              · obtain ⟨bb, e91, hbb, hnb⟩ := hΨ.i (hd _ rfl ⟨12, .data⟩ (by simp) rfl)
                refine op_doC rfl (wanted_none rfl) hK (fun K' hK' => ?_)
                unfold Oper.wp
                go_simp
                have hfr : Fr [rb] W1 W1 := Fr.refl _ _
                exact hK' _ _ (fun u hu => by cases hu) ⟨hΨ.fr, hΨ.zb, fun z => DrQ.go2 hΨ.zb hfr (put_ne (by decide) _) (y := fun b => .pointer (some ⟨b, 0, none⟩)) (hΨ.b (z.resolve_right (by decide))), fun z => DrQ.go2 hΨ.zb hfr (put_ne (by decide) _) (y := fun b => .iface 42 (.pointer (some ⟨b, 0, none⟩))) (hΨ.i (z.resolve_right (by decide))), fun _ => ⟨bb, put_eq (by rw [hG.size]; exact Nat.lt_of_lt_of_eq (by decide : 3 < 102) rfl) _, hbb, hnb⟩⟩
            · intro vs q W1 hq hΨ hv
              have r0 : vs 0 = .agg #[.int .i64 0, .int .i64 0, .int .i64 0, .int .i64 0, .int .i64 0, .int .i64 0, .int .i64 0, .int .i64 0, .int .i64 0, .int .i64 0, .int .i64 0, .slice none 0 0] := hv 0 79 _ (by decide) rfl rfl
              have r1 : vs 1 = .int .i64 k := hv 1 80 _ (by decide) rfl rfl
              have r2 : vs 2 = .pointer (some ⟨fb, 0, none⟩) := hv 2 81 _ (by decide) rfl rfl
              have r3 : vs 3 = .pointer (some ⟨fb, 0, none⟩) := hv 3 82 _ (by decide) rfl rfl
              have r4 : vs 4 = .pointer (some ⟨fb, 0, none⟩) := hv 4 83 _ (by decide) rfl rfl
              have r5 : vs 5 = .int .i64 qq.1 := hv 5 84 _ (by decide) rfl rfl
              have r6 : vs 6 = .pointer (some ⟨fb, 0, none⟩) := hv 6 85 _ (by decide) rfl rfl
              have r7 : vs 7 = .pointer (some ⟨fb, 0, none⟩) := hv 7 86 _ (by decide) rfl rfl
              have r8 : vs 8 = .pointer (some ⟨fb, 1, none⟩) := hv 8 87 _ (by decide) rfl rfl
              have r9 : vs 9 = .int .i64 qq.2 := hv 9 88 _ (by decide) rfl rfl
              have r10 : vs 10 = .agg #[.int .i64 k, .int .i64 qq.1, .int .i64 qq.2] := hv 10 89 _ (by decide) rfl rfl
              simp only [lay, List.foldl_cons, List.foldl_nil, r0, r1, r2, r3, r4, r5, r6, r7, r8, r9, r10] at hΨ ⊢
              simp only [List.setIfInBounds_toArray, List.set_cons_zero, List.set_cons_succ] at hΨ ⊢
              clear hv r0 r1 r2 r3 r4 r5 r6 r7 r8 r9 r10
              generalize vs 11 = x11 at *
              generalize vs 12 = x12 at *
              generalize vs 14 = x14 at *
              obtain ⟨bb, hbe, hbb, hnb⟩ := hΨ.r (hq 14 (by decide))
              have hbe : x14 = .iface 42 (.pointer (some ⟨bb, 0, none⟩)) := by simpa using hbe
              subst hbe
              have HDR := Lib.hid (And.intro hΨ.fr (And.intro hΨ.zb (And.intro hbb hnb)))
              clear hΨ hbb hnb hq
              go_wp2_with fail
              refine bodyPost_ret (results_scr rfl _ _ rb _ _ rfl rfl (HDR.out.2.1.scr rfl)) rfl (ParQ.bad HEE.out HDR.out.2.2.1 ?_ ?_)
              · exact Nat.le_trans H6.out.2.size HDR.out.2.2.2
              · exact H6.out.2.trans HDR.out.1 (fun x hx => .inr (by have := HI.out.1.lo.1; simp at hx; omega))
          | none =>
            rw [ho] at hp
            obtain rfl : fv = .pointer none := hp
            have HEE := Lib.hid (show R = fin (goP (k + 1) (pieces 10 b) (nextCfg k F cfg) (nextSt k F (C.map Prod.fst))) by rw [HE.out, ho])
            have HO2 := Lib.hid (HOK.out ho)
            clear ho
            go_wp2_with fail
            obtain ⟨v2, C2, q1, q2, q3, q4⟩ := HO2.out
            have hI := HI.out.1
            have hlen : C2.length ≤ C.length + 1 := by
              have := congrArg List.length q4
              rw [List.length_map] at this
              rw [this]
              unfold nextSt
              split <;> simp
            have hkd : ∀ x ∈ C2, x.1.kd < 256 := fun x hx => by
              have hm : x.1 ∈ C2.map Prod.fst := List.mem_map_of_mem hx
              rw [q4] at hm
              unfold nextSt at hm
              split at hm
              · rw [List.mem_append, List.mem_singleton] at hm
                rcases hm with hm | hm
                · obtain ⟨y, hy, he⟩ := List.mem_map.1 hm
                  rw [← he]; exact hI.kd y hy
                · rw [hm]; exact stepS_kd F
              · obtain ⟨y, hy, he⟩ := List.mem_map.1 hm
                rw [← he]; exact hI.kd y hy
            have hsz := hI.sz
            have hck := hI.ck
            have hts := HAB.out.1
            exact ⟨⟨k + 1, lb, nextCfg k F cfg, v2, C2, rfl, rfl, ⟨H6.out.1, q2, q1, q3, hkd, by omega, by omega, by omega, hI.ne, hI.lo, H6.out.2⟩, by rw [HEE.out, HAB.out.2.1, q4]⟩, by show lb.size < tl.size; omega⟩
theorem parse_any (w : World) (t : ByteArray) (m : Int) (hm : w.cell? ⟨1, 0, none⟩ = some (.int .i64 m)) :
    Calls Tryz.prog 4 #[.string t] w fun e w' => ParQ w.heap.size w (parseP t) e w' := by
  by_cases h : 4194304 < t.size
  · exact parse_long w t h
  · exact parse_go w t m hm (by omega)
end Sc
end Go.Proofs.YtbpgpjibljgiiaaGreatDoor
